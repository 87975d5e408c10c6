/- contracts of functions, each walked once -/
import Derived.Test.YtbbidfadenmmjaaR2
namespace Go.Proofs.Ytbbidfadenmmjaa
open Go Go.RowKit
set_option maxRecDepth 100000
set_option maxHeartbeats 3200000
set_option linter.unusedVariables false
set_option linter.unusedSimpArgs false

/- impl.stepOk -/
theorem c_impl_stepOk (x : Nat) (w : World) : Gives Try.prog 66 #[(Fl x)] w (fun v w' => v = (Bo (finF (cf .f32 x) && posF (cf .f32 x)))) := by
  refine enter [(Fl x), Ud, Ud, Ud, Ud, Ud, Ud, Ud, Ud] Try.func66 rfl Try.ntmps66 rfl ?_
  refine wp_seq_k fun K1 hK1 => ?_
  refine wp_region_lit ?_
  refine q_is (l' := [(Fl x), Ud, (Bo false), Ud, Ud, Ud, Ud, Ud, Ud]) rfl rfl (does_assign (u := (Bo false)) (ev rfl)) rfl ?_
  refine wpList_nil (hK1 _ _ ?_)
  refine wp_seq_k fun K2 hK2 => ?_
  obtain ⟨β1, hβ1⟩ : ∃ b : Bool, b = (fcmp .gtr (ford .f32 (cf .f32 x) (cf .f32 0))) := ⟨_, rfl⟩
  refine region_text (
    [Fact.pure [] (fun v => v = (Fl x)),
    Fact.pure [3] (fun v => v = (Bo (finF (cf .f32 x)))),
    Fact.pure [4] (fun v => v = (Bo (finF (cf .f32 x)))),
    Fact.pure [5] (fun v => (finF (cf .f32 x)) = true → v = (Fl x)),
    Fact.pure [6, 5] (fun v => (finF (cf .f32 x)) = true → v = (Bo β1)),
    Fact.pure [5, 7] (fun v => v = (Bo ((finF (cf .f32 x)) && β1)))]) (by simp [Fact.pure, Fact.mem]) ?_
  refine RW_d (fun v3 => [(Fl x), Ud, (Bo false), v3, Ud, Ud, Ud, Ud, Ud]) rfl (fun _ => rfl) (fun u hu hF => ?_) (fun v3 => ?_)
  · clear hF
    refine doesG_un rfl ?_
    refine (does_move (u := (Fl x)) (ev rfl)).mono ?_; rintro _ _ ⟨rfl, rfl⟩
    exact ⟨rfl, Ext.refl _⟩
  refine RW_d (fun v4 => [(Fl x), Ud, (Bo false), v3, v4, Ud, Ud, Ud, Ud]) rfl (fun _ => rfl) (fun u hu hF => ?_) (fun v4 => ?_)
  · have h3_ : v3 = (Fl x) := hF.1
    clear hF
    refine doesG_un rfl ?_
    obtain rfl := h3_
    refine (does_call (args := #[(Fl x)]) cal104 (evs rfl) (c_impl_IsFinite x _)).mono ?_; rintro v u' ⟨hx, hv⟩
    exact ⟨hv, hx⟩
  refine RW_d (fun v5 => [(Fl x), Ud, (Bo false), v3, v4, v5, Ud, Ud, Ud]) rfl (fun _ => rfl) (fun u hu hF => ?_) (fun v5 => ?_)
  · have h4_ : v4 = (Bo (finF (cf .f32 x))) := hF.1
    clear hF
    refine doesG_un rfl ?_
    obtain rfl := h4_
    refine (does_move (u := (Bo (finF (cf .f32 x)))) (ev rfl)).mono ?_; rintro _ _ ⟨rfl, rfl⟩
    exact ⟨rfl, Ext.refl _⟩
  refine RW_d (fun v6 => [(Fl x), Ud, (Bo false), v3, v4, v5, v6, Ud, Ud]) rfl (fun _ => rfl) (fun u hu hF => ?_) (fun v6 => ?_)
  · have h5_ : v5 = (Bo (finF (cf .f32 x))) := hF.1
    clear hF
    obtain rfl := h5_
    refine doesG_g (b := (finF (cf .f32 x))) rfl (yld rfl rfl) (fun hg1 => ?_) (fun hc => ⟨fun hg1 => absurd hg1 hc, Ext.refl _⟩)
    refine (does_move (u := (Fl x)) (ev rfl)).mono ?_; rintro _ _ ⟨rfl, rfl⟩
    exact ⟨fun _ => rfl, Ext.refl _⟩
  refine RW_d (fun v7 => [(Fl x), Ud, (Bo false), v3, v4, v5, v6, v7, Ud]) rfl (fun _ => rfl) (fun u hu hF => ?_) (fun v7 => ?_)
  · have h6_ : (finF (cf .f32 x)) = true → v6 = (Fl x) := hF.1
    have h5_ : v5 = (Bo (finF (cf .f32 x))) := hF.2.1
    clear hF
    obtain rfl := h5_
    refine doesG_g (b := (finF (cf .f32 x))) rfl (yld rfl rfl) (fun hg1 => ?_) (fun hc => ⟨fun hg1 => absurd hg1 hc, Ext.refl _⟩)
    obtain rfl := h6_ hg1
    refine (does_fcmp (.inr (.inr (.inr (.inr (.inl rfl))))) (ev rfl) (ev rfl)).mono ?_; rintro _ _ ⟨rfl, rfl⟩
    exact ⟨fun _ => (by first | rfl | (show _ = _; simp only [hβ1])), Ext.refl _⟩
  refine RW_d (fun v8 => [(Fl x), Ud, (Bo false), v3, v4, v5, v6, v7, v8]) rfl (fun _ => rfl) (fun u hu hF => ?_) (fun v8 => ?_)
  · have h5_ : v5 = (Bo (finF (cf .f32 x))) := hF.1
    have h7_ : (finF (cf .f32 x)) = true → v7 = (Bo β1) := hF.2.1
    clear hF
    refine doesG_un rfl ?_
    skip
    obtain rfl := h5_
    refine (does_pick (b := (finF (cf .f32 x))) (ev rfl) (ev rfl) (ev rfl)).mono ?_; rintro _ _ ⟨rfl, rfl⟩; refine ⟨?_, Ext.refl _⟩; skip
    cases hbb : (finF (cf .f32 x)) <;> simp [hbb] at h7_ ⊢
    all_goals (first | rfl | (subst h7_; rfl) | simp_all)
  refine RW_fin ?_; intro w9 E10 hP11
  obtain ⟨⟨⟨⟨⟨⟨-, -⟩, -⟩, -⟩, -⟩, -⟩, q12⟩ := hP11
  have X13 := Ext.gr (Ext.refl w) E10
  have q12 : v8 = (Bo ((finF (cf .f32 x)) && β1)) := q12
  obtain rfl := q12
  show wpList _ _ _ _ (fr [(Fl x), Ud, (Bo false), v3, v4, v5, v6, v7, (Bo ((finF (cf .f32 x)) && β1))]) _
  refine q_is (l' := [(Fl x), Ud, (Bo ((finF (cf .f32 x)) && β1)), v3, v4, v5, v6, v7, (Bo ((finF (cf .f32 x)) && β1))]) rfl rfl (does_assign (u := (Bo ((finF (cf .f32 x)) && β1))) (ev rfl)) rfl ?_
  refine wpList_nil (hK2 _ _ ?_)
  refine wp_ret ?_
  refine ret_val (v := (Bo ((finF (cf .f32 x)) && β1))) (res_T rfl (slot rfl)) X13 ?_
  have x14 : (finF (cf .f32 x) && posF (cf .f32 x)) = ((finF (cf .f32 x)) && β1) := by first | with_reducible rfl | (simp only [posF, hβ1]; done) | (simp [posF, hβ1]; done) | rfl
  exact (by first | rfl | rw [x14])

/- impl.isZero -/
theorem c_impl_isZero (v : List Value) (A_v : V3) (w : World) (hv_v : RV3 w A_v v) : Gives Try.prog 67 #[(.agg v.toArray)] w (fun v w' => v = (Bo (zeroV A_v))) := by
  obtain ⟨r1, r3, r5, rfl, h2, h4, h6⟩ := hv_v
  refine enter [(.agg #[(Fl r1), (Fl r3), (Fl r5)]), Ud, Ud, Ud, Ud, Ud, Ud, Ud, Ud, Ud, Ud, Ud, Ud, Ud, Ud, Ud] Try.func67 rfl Try.ntmps67 rfl ?_
  refine wp_seq_k fun K7 hK7 => ?_
  refine wp_region_lit ?_
  refine seqd rfl rfl (does_box (u := (.agg #[(Fl r1), (Fl r3), (Fl r5)])) (ev rfl)) ?_; rintro _ w12 ⟨b8, rfl, hb9, hB10, E11⟩
  have g13 : w.heap.size ≤ b8 := Nat.le_trans (Below.size (Ext.refl w)) hb9
  change Blk _ _ [(Fl r1), (Fl r3), (Fl r5)] at hB10
  have X14 := Ext.gr (Ext.refl w) E11
  show wpList _ _ _ _ (fr [(.agg #[(Fl r1), (Fl r3), (Fl r5)]), (Pt b8 0), Ud, Ud, Ud, Ud, Ud, Ud, Ud, Ud, Ud, Ud, Ud, Ud, Ud, Ud]) _
  refine q_is (l' := [(.agg #[(Fl r1), (Fl r3), (Fl r5)]), (Pt b8 0), (Bo false), Ud, Ud, Ud, Ud, Ud, Ud, Ud, Ud, Ud, Ud, Ud, Ud, Ud]) rfl rfl (does_assign (u := (Bo false)) (ev rfl)) rfl ?_
  refine wpList_nil (hK7 _ _ ?_)
  refine wp_seq_k fun K15 hK15 => ?_
  obtain ⟨β1, hβ1⟩ : ∃ b : Bool, b = (fcmp .eql (ford .f32 (cf .f32 r1) (cf .f32 0))) := ⟨_, rfl⟩
  obtain ⟨β2, hβ2⟩ : ∃ b : Bool, b = (fcmp .eql (ford .f32 (cf .f32 r3) (cf .f32 0))) := ⟨_, rfl⟩
  obtain ⟨β3, hβ3⟩ : ∃ b : Bool, b = (fcmp .eql (ford .f32 (cf .f32 r5) (cf .f32 0))) := ⟨_, rfl⟩
  refine region_text (
    [Fact.pure [] (fun v => v = (Pt b8 0)),
    Fact.pure [3] (fun v => v = (Fl r1)),
    Fact.pure [4] (fun v => v = (Bo β1)),
    Fact.pure [5] (fun v => v = (Bo β1)),
    Fact.pure [6] (fun v => β1 = true → v = (Pt b8 1)),
    Fact.pure [7, 6] (fun v => β1 = true → v = (Fl r3)),
    Fact.pure [8, 6] (fun v => β1 = true → v = (Bo β2)),
    Fact.pure [6, 9] (fun v => v = (Bo (β1 && β2))),
    Fact.pure [10] (fun v => v = (Bo (β1 && β2))),
    Fact.pure [11] (fun v => (β1 && β2) = true → v = (Pt b8 2)),
    Fact.pure [12, 11] (fun v => (β1 && β2) = true → v = (Fl r5)),
    Fact.pure [13, 11] (fun v => (β1 && β2) = true → v = (Bo β3)),
    Fact.pure [11, 14] (fun v => v = (Bo ((β1 && β2) && β3)))]) (by simp [Fact.pure, Fact.mem]) ?_
  refine RW_d (fun v16 => [(.agg #[(Fl r1), (Fl r3), (Fl r5)]), (Pt b8 0), (Bo false), v16, Ud, Ud, Ud, Ud, Ud, Ud, Ud, Ud, Ud, Ud, Ud, Ud]) rfl (fun _ => rfl) (fun u hu hF => ?_) (fun v16 => ?_)
  · clear hF
    refine doesG_un rfl ?_
    refine (does_fieldAddr (ev rfl) fa26_0).mono ?_; rintro _ _ ⟨rfl, rfl⟩
    exact ⟨rfl, Ext.refl _⟩
  refine RW_d (fun v17 => [(.agg #[(Fl r1), (Fl r3), (Fl r5)]), (Pt b8 0), (Bo false), v16, v17, Ud, Ud, Ud, Ud, Ud, Ud, Ud, Ud, Ud, Ud, Ud]) rfl (fun _ => rfl) (fun u hu hF => ?_) (fun v17 => ?_)
  · have h3_ : v16 = (Pt b8 0) := hF.1
    clear hF
    refine doesG_un rfl ?_
    obtain rfl := h3_
    refine (does_load (u := (Fl r1)) (ev rfl) Try.isAgg24 (Cells.at (Blk.cells (hB10.ext hu)) 0 rfl)).mono ?_; rintro _ _ ⟨rfl, rfl⟩
    exact ⟨rfl, Ext.refl _⟩
  refine RW_d (fun v18 => [(.agg #[(Fl r1), (Fl r3), (Fl r5)]), (Pt b8 0), (Bo false), v16, v17, v18, Ud, Ud, Ud, Ud, Ud, Ud, Ud, Ud, Ud, Ud]) rfl (fun _ => rfl) (fun u hu hF => ?_) (fun v18 => ?_)
  · have h4_ : v17 = (Fl r1) := hF.1
    clear hF
    refine doesG_un rfl ?_
    obtain rfl := h4_
    refine (does_fcmp (.inl rfl) (ev rfl) (ev rfl)).mono ?_; rintro _ _ ⟨rfl, rfl⟩
    exact ⟨(by first | rfl | (show _ = _; simp only [hβ1])), Ext.refl _⟩
  refine RW_d (fun v19 => [(.agg #[(Fl r1), (Fl r3), (Fl r5)]), (Pt b8 0), (Bo false), v16, v17, v18, v19, Ud, Ud, Ud, Ud, Ud, Ud, Ud, Ud, Ud]) rfl (fun _ => rfl) (fun u hu hF => ?_) (fun v19 => ?_)
  · have h5_ : v18 = (Bo β1) := hF.1
    clear hF
    refine doesG_un rfl ?_
    obtain rfl := h5_
    refine (does_move (u := (Bo β1)) (ev rfl)).mono ?_; rintro _ _ ⟨rfl, rfl⟩
    exact ⟨rfl, Ext.refl _⟩
  refine RW_d (fun v20 => [(.agg #[(Fl r1), (Fl r3), (Fl r5)]), (Pt b8 0), (Bo false), v16, v17, v18, v19, v20, Ud, Ud, Ud, Ud, Ud, Ud, Ud, Ud]) rfl (fun _ => rfl) (fun u hu hF => ?_) (fun v20 => ?_)
  · have h6_ : v19 = (Bo β1) := hF.1
    clear hF
    obtain rfl := h6_
    refine doesG_g (b := β1) rfl (yld rfl rfl) (fun hg1 => ?_) (fun hc => ⟨fun hg1 => absurd hg1 hc, Ext.refl _⟩)
    refine (does_fieldAddr (ev rfl) fa26_1).mono ?_; rintro _ _ ⟨rfl, rfl⟩
    exact ⟨fun _ => rfl, Ext.refl _⟩
  refine RW_d (fun v21 => [(.agg #[(Fl r1), (Fl r3), (Fl r5)]), (Pt b8 0), (Bo false), v16, v17, v18, v19, v20, v21, Ud, Ud, Ud, Ud, Ud, Ud, Ud]) rfl (fun _ => rfl) (fun u hu hF => ?_) (fun v21 => ?_)
  · have h7_ : β1 = true → v20 = (Pt b8 1) := hF.1
    have h6_ : v19 = (Bo β1) := hF.2.1
    clear hF
    obtain rfl := h6_
    refine doesG_g (b := β1) rfl (yld rfl rfl) (fun hg1 => ?_) (fun hc => ⟨fun hg1 => absurd hg1 hc, Ext.refl _⟩)
    obtain rfl := h7_ hg1
    refine (does_load (u := (Fl r3)) (ev rfl) Try.isAgg24 (Cells.at (Blk.cells (hB10.ext hu)) 1 rfl)).mono ?_; rintro _ _ ⟨rfl, rfl⟩
    exact ⟨fun _ => rfl, Ext.refl _⟩
  refine RW_d (fun v22 => [(.agg #[(Fl r1), (Fl r3), (Fl r5)]), (Pt b8 0), (Bo false), v16, v17, v18, v19, v20, v21, v22, Ud, Ud, Ud, Ud, Ud, Ud]) rfl (fun _ => rfl) (fun u hu hF => ?_) (fun v22 => ?_)
  · have h8_ : β1 = true → v21 = (Fl r3) := hF.1
    have h6_ : v19 = (Bo β1) := hF.2.1
    clear hF
    obtain rfl := h6_
    refine doesG_g (b := β1) rfl (yld rfl rfl) (fun hg1 => ?_) (fun hc => ⟨fun hg1 => absurd hg1 hc, Ext.refl _⟩)
    obtain rfl := h8_ hg1
    refine (does_fcmp (.inl rfl) (ev rfl) (ev rfl)).mono ?_; rintro _ _ ⟨rfl, rfl⟩
    exact ⟨fun _ => (by first | rfl | (show _ = _; simp only [hβ2])), Ext.refl _⟩
  refine RW_d (fun v23 => [(.agg #[(Fl r1), (Fl r3), (Fl r5)]), (Pt b8 0), (Bo false), v16, v17, v18, v19, v20, v21, v22, v23, Ud, Ud, Ud, Ud, Ud]) rfl (fun _ => rfl) (fun u hu hF => ?_) (fun v23 => ?_)
  · have h6_ : v19 = (Bo β1) := hF.1
    have h9_ : β1 = true → v22 = (Bo β2) := hF.2.1
    clear hF
    refine doesG_un rfl ?_
    skip
    obtain rfl := h6_
    refine (does_pick (b := β1) (ev rfl) (ev rfl) (ev rfl)).mono ?_; rintro _ _ ⟨rfl, rfl⟩; refine ⟨?_, Ext.refl _⟩; skip
    cases hbb : β1 <;> simp [hbb] at h9_ ⊢
    all_goals (first | rfl | (subst h9_; rfl) | simp_all)
  refine RW_d (fun v24 => [(.agg #[(Fl r1), (Fl r3), (Fl r5)]), (Pt b8 0), (Bo false), v16, v17, v18, v19, v20, v21, v22, v23, v24, Ud, Ud, Ud, Ud]) rfl (fun _ => rfl) (fun u hu hF => ?_) (fun v24 => ?_)
  · have h10_ : v23 = (Bo (β1 && β2)) := hF.1
    clear hF
    refine doesG_un rfl ?_
    obtain rfl := h10_
    refine (does_move (u := (Bo (β1 && β2))) (ev rfl)).mono ?_; rintro _ _ ⟨rfl, rfl⟩
    exact ⟨rfl, Ext.refl _⟩
  refine RW_d (fun v25 => [(.agg #[(Fl r1), (Fl r3), (Fl r5)]), (Pt b8 0), (Bo false), v16, v17, v18, v19, v20, v21, v22, v23, v24, v25, Ud, Ud, Ud]) rfl (fun _ => rfl) (fun u hu hF => ?_) (fun v25 => ?_)
  · have h11_ : v24 = (Bo (β1 && β2)) := hF.1
    clear hF
    obtain rfl := h11_
    refine doesG_g (b := (β1 && β2)) rfl (yld rfl rfl) (fun hg1 => ?_) (fun hc => ⟨fun hg1 => absurd hg1 hc, Ext.refl _⟩)
    refine (does_fieldAddr (ev rfl) fa26_2).mono ?_; rintro _ _ ⟨rfl, rfl⟩
    exact ⟨fun _ => rfl, Ext.refl _⟩
  refine RW_d (fun v26 => [(.agg #[(Fl r1), (Fl r3), (Fl r5)]), (Pt b8 0), (Bo false), v16, v17, v18, v19, v20, v21, v22, v23, v24, v25, v26, Ud, Ud]) rfl (fun _ => rfl) (fun u hu hF => ?_) (fun v26 => ?_)
  · have h12_ : (β1 && β2) = true → v25 = (Pt b8 2) := hF.1
    have h11_ : v24 = (Bo (β1 && β2)) := hF.2.1
    clear hF
    obtain rfl := h11_
    refine doesG_g (b := (β1 && β2)) rfl (yld rfl rfl) (fun hg1 => ?_) (fun hc => ⟨fun hg1 => absurd hg1 hc, Ext.refl _⟩)
    obtain rfl := h12_ hg1
    refine (does_load (u := (Fl r5)) (ev rfl) Try.isAgg24 (Cells.at (Blk.cells (hB10.ext hu)) 2 rfl)).mono ?_; rintro _ _ ⟨rfl, rfl⟩
    exact ⟨fun _ => rfl, Ext.refl _⟩
  refine RW_d (fun v27 => [(.agg #[(Fl r1), (Fl r3), (Fl r5)]), (Pt b8 0), (Bo false), v16, v17, v18, v19, v20, v21, v22, v23, v24, v25, v26, v27, Ud]) rfl (fun _ => rfl) (fun u hu hF => ?_) (fun v27 => ?_)
  · have h13_ : (β1 && β2) = true → v26 = (Fl r5) := hF.1
    have h11_ : v24 = (Bo (β1 && β2)) := hF.2.1
    clear hF
    obtain rfl := h11_
    refine doesG_g (b := (β1 && β2)) rfl (yld rfl rfl) (fun hg1 => ?_) (fun hc => ⟨fun hg1 => absurd hg1 hc, Ext.refl _⟩)
    obtain rfl := h13_ hg1
    refine (does_fcmp (.inl rfl) (ev rfl) (ev rfl)).mono ?_; rintro _ _ ⟨rfl, rfl⟩
    exact ⟨fun _ => (by first | rfl | (show _ = _; simp only [hβ3])), Ext.refl _⟩
  refine RW_d (fun v28 => [(.agg #[(Fl r1), (Fl r3), (Fl r5)]), (Pt b8 0), (Bo false), v16, v17, v18, v19, v20, v21, v22, v23, v24, v25, v26, v27, v28]) rfl (fun _ => rfl) (fun u hu hF => ?_) (fun v28 => ?_)
  · have h11_ : v24 = (Bo (β1 && β2)) := hF.1
    have h14_ : (β1 && β2) = true → v27 = (Bo β3) := hF.2.1
    clear hF
    refine doesG_un rfl ?_
    skip
    obtain rfl := h11_
    refine (does_pick (b := (β1 && β2)) (ev rfl) (ev rfl) (ev rfl)).mono ?_; rintro _ _ ⟨rfl, rfl⟩; refine ⟨?_, Ext.refl _⟩; skip
    cases hbb : (β1 && β2) <;> simp [hbb] at h14_ ⊢
    all_goals (first | rfl | (subst h14_; rfl) | simp_all)
  refine RW_fin ?_; intro w29 E30 hP31
  obtain ⟨⟨⟨⟨⟨⟨⟨⟨⟨⟨⟨⟨⟨-, -⟩, -⟩, -⟩, -⟩, -⟩, -⟩, -⟩, -⟩, -⟩, -⟩, -⟩, -⟩, q32⟩ := hP31
  have X33 := Ext.gr X14 E30
  have q32 : v28 = (Bo ((β1 && β2) && β3)) := q32
  obtain rfl := q32
  show wpList _ _ _ _ (fr [(.agg #[(Fl r1), (Fl r3), (Fl r5)]), (Pt b8 0), (Bo false), v16, v17, v18, v19, v20, v21, v22, v23, v24, v25, v26, v27, (Bo ((β1 && β2) && β3))]) _
  refine q_is (l' := [(.agg #[(Fl r1), (Fl r3), (Fl r5)]), (Pt b8 0), (Bo ((β1 && β2) && β3)), v16, v17, v18, v19, v20, v21, v22, v23, v24, v25, v26, v27, (Bo ((β1 && β2) && β3))]) rfl rfl (does_assign (u := (Bo ((β1 && β2) && β3))) (ev rfl)) rfl ?_
  refine wpList_nil (hK15 _ _ ?_)
  refine wp_ret ?_
  refine ret_val (v := (Bo ((β1 && β2) && β3))) (res_T rfl (slot rfl)) X33 ?_
  have x34 : (zeroV A_v) = ((β1 && β2) && β3) := by first | with_reducible rfl | (simp only [zeroV, h2, h4, h6, hβ1, hβ2, hβ3]; done) | (simp [zeroV, h2, h4, h6, hβ1, hβ2, hβ3]; done) | rfl
  exact (by first | rfl | rw [x34])

/- impl.ValidCamera -/
theorem c_impl_ValidCamera (c : List Value) (A_c : CamT) (w : World) (hv_c : RCamT w A_c c) : Gives Try.prog 25 #[(.agg c.toArray)] w (fun v w' => v = (Bo (isCam A_c))) := by
  obtain ⟨r1, r3, r5, r7, r9, r11, r13, rfl, h2, h4, h6, h8, h10, h12, h14⟩ := hv_c
  refine enter [(.agg #[(Fl r1), (Fl r3), (Fl r5), (Fl r7), (Fl r9), (Fl r11), (Fl r13), (Iv A_c.width), (Iv A_c.height)]), Ud, Ud, Ud, Ud, Ud, Ud, Ud, Ud, Ud, Ud, Ud, Ud, Ud, Ud, Ud, Ud, Ud, Ud, Ud, Ud, Ud, Ud, Ud, Ud, Ud, Ud, Ud, Ud, Ud, Ud, Ud, Ud, Ud, Ud, Ud, Ud, Ud, Ud, Ud, Ud, Ud, Ud, Ud, Ud, Ud] Try.func25 rfl Try.ntmps25 rfl ?_
  refine wp_seq_k fun K15 hK15 => ?_
  refine wp_region_lit ?_
  refine seqd rfl rfl (does_box (u := (.agg #[(Fl r1), (Fl r3), (Fl r5), (Fl r7), (Fl r9), (Fl r11), (Fl r13), (Iv A_c.width), (Iv A_c.height)])) (ev rfl)) ?_; rintro _ w20 ⟨b16, rfl, hb17, hB18, E19⟩
  have g21 : w.heap.size ≤ b16 := Nat.le_trans (Below.size (Ext.refl w)) hb17
  change Blk _ _ [(Fl r1), (Fl r3), (Fl r5), (Fl r7), (Fl r9), (Fl r11), (Fl r13), (Iv A_c.width), (Iv A_c.height)] at hB18
  have X22 := Ext.gr (Ext.refl w) E19
  show wpList _ _ _ _ (fr [(.agg #[(Fl r1), (Fl r3), (Fl r5), (Fl r7), (Fl r9), (Fl r11), (Fl r13), (Iv A_c.width), (Iv A_c.height)]), (Pt b16 0), Ud, Ud, Ud, Ud, Ud, Ud, Ud, Ud, Ud, Ud, Ud, Ud, Ud, Ud, Ud, Ud, Ud, Ud, Ud, Ud, Ud, Ud, Ud, Ud, Ud, Ud, Ud, Ud, Ud, Ud, Ud, Ud, Ud, Ud, Ud, Ud, Ud, Ud, Ud, Ud, Ud, Ud, Ud, Ud]) _
  refine q_is (l' := [(.agg #[(Fl r1), (Fl r3), (Fl r5), (Fl r7), (Fl r9), (Fl r11), (Fl r13), (Iv A_c.width), (Iv A_c.height)]), (Pt b16 0), (Bo false), Ud, Ud, Ud, Ud, Ud, Ud, Ud, Ud, Ud, Ud, Ud, Ud, Ud, Ud, Ud, Ud, Ud, Ud, Ud, Ud, Ud, Ud, Ud, Ud, Ud, Ud, Ud, Ud, Ud, Ud, Ud, Ud, Ud, Ud, Ud, Ud, Ud, Ud, Ud, Ud, Ud, Ud, Ud]) rfl rfl (does_assign (u := (Bo false)) (ev rfl)) rfl ?_
  refine wpList_nil (hK15 _ _ ?_)
  refine wp_seq_k fun K23 hK23 => ?_
  refine wp_region_lit ?_
  refine seqd rfl rfl (does_call (args := #[(Pt b16 0)]) cal65 (evs rfl) (c_impl_Camera_axes b16 0 [(Fl r1), (Fl r3), (Fl r5), (Fl r7), (Fl r9), (Fl r11), (Fl r13), (Iv A_c.width), (Iv A_c.height)] A_c _ (Blk.cells hB18) ⟨r1, r3, r5, r7, r9, r11, r13, rfl, h2, h4, h6, h8, h10, h12, h14⟩)) ?_; rintro _ w25 ⟨E24, ⟨_, _, _, rfl, ⟨r26, r28, r30, rfl, h27, h29, h31⟩, ⟨r32, r34, r36, rfl, h33, h35, h37⟩, ⟨r38, r40, r42, rfl, h39, h41, h43⟩⟩⟩
  have X44 := Ext.gr X22 E24
  show wpList _ _ _ _ (fr [(.agg #[(Fl r1), (Fl r3), (Fl r5), (Fl r7), (Fl r9), (Fl r11), (Fl r13), (Iv A_c.width), (Iv A_c.height)]), (Pt b16 0), (Bo false), Ud, Ud, Ud, Ud, Ud, (.tuple #[(.agg #[(Fl r26), (Fl r28), (Fl r30)]), (.agg #[(Fl r32), (Fl r34), (Fl r36)]), (.agg #[(Fl r38), (Fl r40), (Fl r42)])]), Ud, Ud, Ud, Ud, Ud, Ud, Ud, Ud, Ud, Ud, Ud, Ud, Ud, Ud, Ud, Ud, Ud, Ud, Ud, Ud, Ud, Ud, Ud, Ud, Ud, Ud, Ud, Ud, Ud, Ud, Ud, Ud, Ud, Ud, Ud, Ud, Ud]) _
  refine q_is (l' := [(.agg #[(Fl r1), (Fl r3), (Fl r5), (Fl r7), (Fl r9), (Fl r11), (Fl r13), (Iv A_c.width), (Iv A_c.height)]), (Pt b16 0), (Bo false), Ud, Ud, Ud, Ud, (.tuple #[(.agg #[(Fl r26), (Fl r28), (Fl r30)]), (.agg #[(Fl r32), (Fl r34), (Fl r36)]), (.agg #[(Fl r38), (Fl r40), (Fl r42)])]), (.tuple #[(.agg #[(Fl r26), (Fl r28), (Fl r30)]), (.agg #[(Fl r32), (Fl r34), (Fl r36)]), (.agg #[(Fl r38), (Fl r40), (Fl r42)])]), Ud, Ud, Ud, Ud, Ud, Ud, Ud, Ud, Ud, Ud, Ud, Ud, Ud, Ud, Ud, Ud, Ud, Ud, Ud, Ud, Ud, Ud, Ud, Ud, Ud, Ud, Ud, Ud, Ud, Ud, Ud, Ud, Ud, Ud, Ud, Ud, Ud]) rfl rfl (does_move (u := (.tuple #[(.agg #[(Fl r26), (Fl r28), (Fl r30)]), (.agg #[(Fl r32), (Fl r34), (Fl r36)]), (.agg #[(Fl r38), (Fl r40), (Fl r42)])])) (ev rfl)) rfl ?_
  refine q_is (l' := [(.agg #[(Fl r1), (Fl r3), (Fl r5), (Fl r7), (Fl r9), (Fl r11), (Fl r13), (Iv A_c.width), (Iv A_c.height)]), (Pt b16 0), (Bo false), Ud, Ud, Ud, Ud, (.tuple #[(.agg #[(Fl r26), (Fl r28), (Fl r30)]), (.agg #[(Fl r32), (Fl r34), (Fl r36)]), (.agg #[(Fl r38), (Fl r40), (Fl r42)])]), (.tuple #[(.agg #[(Fl r26), (Fl r28), (Fl r30)]), (.agg #[(Fl r32), (Fl r34), (Fl r36)]), (.agg #[(Fl r38), (Fl r40), (Fl r42)])]), (.agg #[(Fl r26), (Fl r28), (Fl r30)]), Ud, Ud, Ud, Ud, Ud, Ud, Ud, Ud, Ud, Ud, Ud, Ud, Ud, Ud, Ud, Ud, Ud, Ud, Ud, Ud, Ud, Ud, Ud, Ud, Ud, Ud, Ud, Ud, Ud, Ud, Ud, Ud, Ud, Ud, Ud, Ud]) rfl rfl (does_extract (vs := #[(.agg #[(Fl r26), (Fl r28), (Fl r30)]), (.agg #[(Fl r32), (Fl r34), (Fl r36)]), (.agg #[(Fl r38), (Fl r40), (Fl r42)])]) (u := (.agg #[(Fl r26), (Fl r28), (Fl r30)])) (ev rfl) rfl) rfl ?_
  refine q_is (l' := [(.agg #[(Fl r1), (Fl r3), (Fl r5), (Fl r7), (Fl r9), (Fl r11), (Fl r13), (Iv A_c.width), (Iv A_c.height)]), (Pt b16 0), (Bo false), Ud, Ud, Ud, Ud, (.tuple #[(.agg #[(Fl r26), (Fl r28), (Fl r30)]), (.agg #[(Fl r32), (Fl r34), (Fl r36)]), (.agg #[(Fl r38), (Fl r40), (Fl r42)])]), (.tuple #[(.agg #[(Fl r26), (Fl r28), (Fl r30)]), (.agg #[(Fl r32), (Fl r34), (Fl r36)]), (.agg #[(Fl r38), (Fl r40), (Fl r42)])]), (.agg #[(Fl r26), (Fl r28), (Fl r30)]), (.agg #[(Fl r32), (Fl r34), (Fl r36)]), Ud, Ud, Ud, Ud, Ud, Ud, Ud, Ud, Ud, Ud, Ud, Ud, Ud, Ud, Ud, Ud, Ud, Ud, Ud, Ud, Ud, Ud, Ud, Ud, Ud, Ud, Ud, Ud, Ud, Ud, Ud, Ud, Ud, Ud, Ud]) rfl rfl (does_extract (vs := #[(.agg #[(Fl r26), (Fl r28), (Fl r30)]), (.agg #[(Fl r32), (Fl r34), (Fl r36)]), (.agg #[(Fl r38), (Fl r40), (Fl r42)])]) (u := (.agg #[(Fl r32), (Fl r34), (Fl r36)])) (ev rfl) rfl) rfl ?_
  refine q_is (l' := [(.agg #[(Fl r1), (Fl r3), (Fl r5), (Fl r7), (Fl r9), (Fl r11), (Fl r13), (Iv A_c.width), (Iv A_c.height)]), (Pt b16 0), (Bo false), Ud, Ud, Ud, Ud, (.tuple #[(.agg #[(Fl r26), (Fl r28), (Fl r30)]), (.agg #[(Fl r32), (Fl r34), (Fl r36)]), (.agg #[(Fl r38), (Fl r40), (Fl r42)])]), (.tuple #[(.agg #[(Fl r26), (Fl r28), (Fl r30)]), (.agg #[(Fl r32), (Fl r34), (Fl r36)]), (.agg #[(Fl r38), (Fl r40), (Fl r42)])]), (.agg #[(Fl r26), (Fl r28), (Fl r30)]), (.agg #[(Fl r32), (Fl r34), (Fl r36)]), (.agg #[(Fl r38), (Fl r40), (Fl r42)]), Ud, Ud, Ud, Ud, Ud, Ud, Ud, Ud, Ud, Ud, Ud, Ud, Ud, Ud, Ud, Ud, Ud, Ud, Ud, Ud, Ud, Ud, Ud, Ud, Ud, Ud, Ud, Ud, Ud, Ud, Ud, Ud, Ud, Ud]) rfl rfl (does_extract (vs := #[(.agg #[(Fl r26), (Fl r28), (Fl r30)]), (.agg #[(Fl r32), (Fl r34), (Fl r36)]), (.agg #[(Fl r38), (Fl r40), (Fl r42)])]) (u := (.agg #[(Fl r38), (Fl r40), (Fl r42)])) (ev rfl) rfl) rfl ?_
  refine seqd rfl rfl (does_alloc z26) ?_; rintro _ w49 ⟨b45, rfl, hb46, hB47, E48⟩
  have n50 : b16 < b45 := Nat.lt_of_lt_of_le (Blk.lt (hB18.ext E24)) hb46
  have g51 : w.heap.size ≤ b45 := Nat.le_trans (Below.size X44) hb46
  change Blk _ _ [(Fl 0), (Fl 0), (Fl 0)] at hB47
  have X52 := Ext.gr X44 E48
  show wpList _ _ _ _ (fr [(.agg #[(Fl r1), (Fl r3), (Fl r5), (Fl r7), (Fl r9), (Fl r11), (Fl r13), (Iv A_c.width), (Iv A_c.height)]), (Pt b16 0), (Bo false), (Pt b45 0), Ud, Ud, Ud, (.tuple #[(.agg #[(Fl r26), (Fl r28), (Fl r30)]), (.agg #[(Fl r32), (Fl r34), (Fl r36)]), (.agg #[(Fl r38), (Fl r40), (Fl r42)])]), (.tuple #[(.agg #[(Fl r26), (Fl r28), (Fl r30)]), (.agg #[(Fl r32), (Fl r34), (Fl r36)]), (.agg #[(Fl r38), (Fl r40), (Fl r42)])]), (.agg #[(Fl r26), (Fl r28), (Fl r30)]), (.agg #[(Fl r32), (Fl r34), (Fl r36)]), (.agg #[(Fl r38), (Fl r40), (Fl r42)]), Ud, Ud, Ud, Ud, Ud, Ud, Ud, Ud, Ud, Ud, Ud, Ud, Ud, Ud, Ud, Ud, Ud, Ud, Ud, Ud, Ud, Ud, Ud, Ud, Ud, Ud, Ud, Ud, Ud, Ud, Ud, Ud, Ud, Ud]) _
  refine seqd rfl rfl (does_alloc z26) ?_; rintro _ w57 ⟨b53, rfl, hb54, hB55, E56⟩
  have n58 : b16 < b53 := Nat.lt_of_lt_of_le (Blk.lt ((hB18.ext E24).ext E48)) hb54
  have n59 : b45 < b53 := Nat.lt_of_lt_of_le (Blk.lt hB47) hb54
  have g60 : w.heap.size ≤ b53 := Nat.le_trans (Below.size X52) hb54
  change Blk _ _ [(Fl 0), (Fl 0), (Fl 0)] at hB55
  have X61 := Ext.gr X52 E56
  show wpList _ _ _ _ (fr [(.agg #[(Fl r1), (Fl r3), (Fl r5), (Fl r7), (Fl r9), (Fl r11), (Fl r13), (Iv A_c.width), (Iv A_c.height)]), (Pt b16 0), (Bo false), (Pt b45 0), (Pt b53 0), Ud, Ud, (.tuple #[(.agg #[(Fl r26), (Fl r28), (Fl r30)]), (.agg #[(Fl r32), (Fl r34), (Fl r36)]), (.agg #[(Fl r38), (Fl r40), (Fl r42)])]), (.tuple #[(.agg #[(Fl r26), (Fl r28), (Fl r30)]), (.agg #[(Fl r32), (Fl r34), (Fl r36)]), (.agg #[(Fl r38), (Fl r40), (Fl r42)])]), (.agg #[(Fl r26), (Fl r28), (Fl r30)]), (.agg #[(Fl r32), (Fl r34), (Fl r36)]), (.agg #[(Fl r38), (Fl r40), (Fl r42)]), Ud, Ud, Ud, Ud, Ud, Ud, Ud, Ud, Ud, Ud, Ud, Ud, Ud, Ud, Ud, Ud, Ud, Ud, Ud, Ud, Ud, Ud, Ud, Ud, Ud, Ud, Ud, Ud, Ud, Ud, Ud, Ud, Ud, Ud]) _
  refine seqd rfl rfl (does_alloc z26) ?_; rintro _ w66 ⟨b62, rfl, hb63, hB64, E65⟩
  have n67 : b16 < b62 := Nat.lt_of_lt_of_le (Blk.lt (((hB18.ext E24).ext E48).ext E56)) hb63
  have n68 : b45 < b62 := Nat.lt_of_lt_of_le (Blk.lt (hB47.ext E56)) hb63
  have n69 : b53 < b62 := Nat.lt_of_lt_of_le (Blk.lt hB55) hb63
  have g70 : w.heap.size ≤ b62 := Nat.le_trans (Below.size X61) hb63
  change Blk _ _ [(Fl 0), (Fl 0), (Fl 0)] at hB64
  have X71 := Ext.gr X61 E65
  show wpList _ _ _ _ (fr [(.agg #[(Fl r1), (Fl r3), (Fl r5), (Fl r7), (Fl r9), (Fl r11), (Fl r13), (Iv A_c.width), (Iv A_c.height)]), (Pt b16 0), (Bo false), (Pt b45 0), (Pt b53 0), (Pt b62 0), Ud, (.tuple #[(.agg #[(Fl r26), (Fl r28), (Fl r30)]), (.agg #[(Fl r32), (Fl r34), (Fl r36)]), (.agg #[(Fl r38), (Fl r40), (Fl r42)])]), (.tuple #[(.agg #[(Fl r26), (Fl r28), (Fl r30)]), (.agg #[(Fl r32), (Fl r34), (Fl r36)]), (.agg #[(Fl r38), (Fl r40), (Fl r42)])]), (.agg #[(Fl r26), (Fl r28), (Fl r30)]), (.agg #[(Fl r32), (Fl r34), (Fl r36)]), (.agg #[(Fl r38), (Fl r40), (Fl r42)]), Ud, Ud, Ud, Ud, Ud, Ud, Ud, Ud, Ud, Ud, Ud, Ud, Ud, Ud, Ud, Ud, Ud, Ud, Ud, Ud, Ud, Ud, Ud, Ud, Ud, Ud, Ud, Ud, Ud, Ud, Ud, Ud, Ud, Ud]) _
  refine seqn rfl rfl (does_store (n := 3) (cs := [(Fl 0), (Fl 0), (Fl 0)]) (u := (.agg #[(Fl r26), (Fl r28), (Fl r30)])) (ev rfl) (ev rfl) Try.sizeOf26 rfl ((hB47.ext E56).ext E65) (Nat.le_of_ble_eq_true rfl) rfl) ?_; rintro _ w74 ⟨rfl, W72, hB73⟩
  change Blk _ _ [(Fl r26), (Fl r28), (Fl r30)] at hB73
  have X75 := Below.wr X71 W72 g51
  refine seqn rfl rfl (does_store (n := 3) (cs := [(Fl 0), (Fl 0), (Fl 0)]) (u := (.agg #[(Fl r32), (Fl r34), (Fl r36)])) (ev rfl) (ev rfl) Try.sizeOf26 rfl ((hB55.ext E65).wr W72 (Nat.ne_of_gt n59)) (Nat.le_of_ble_eq_true rfl) rfl) ?_; rintro _ w78 ⟨rfl, W76, hB77⟩
  change Blk _ _ [(Fl r32), (Fl r34), (Fl r36)] at hB77
  have X79 := Below.wr X75 W76 g60
  refine seqn rfl rfl (does_store (n := 3) (cs := [(Fl 0), (Fl 0), (Fl 0)]) (u := (.agg #[(Fl r38), (Fl r40), (Fl r42)])) (ev rfl) (ev rfl) Try.sizeOf26 rfl ((hB64.wr W72 (Nat.ne_of_gt n68)).wr W76 (Nat.ne_of_gt n69)) (Nat.le_of_ble_eq_true rfl) rfl) ?_; rintro _ w82 ⟨rfl, W80, hB81⟩
  change Blk _ _ [(Fl r38), (Fl r40), (Fl r42)] at hB81
  have X83 := Below.wr X79 W80 g70
  refine wpList_nil (hK23 _ _ ?_)
  refine wp_seq_k fun K84 hK84 => ?_
  obtain ⟨β1, hβ1⟩ : ∃ b : Bool, b = ((inI A_c.width 1 12) && (inI A_c.height 1 12)) := ⟨_, rfl⟩
  obtain ⟨β2, hβ2⟩ : ∃ b : Bool, b = (finF (cf .f32 r13) && posF (cf .f32 r13)) := ⟨_, rfl⟩
  refine region_text (
    [Fact.pure [] (fun v => v = (Pt b16 7)),
    Fact.pure [12] (fun v => v = (Iv A_c.width)),
    Fact.pure [13] (fun v => v = (Bo (inI A_c.width 1 12))),
    Fact.pure [14] (fun v => v = (Bo (inI A_c.width 1 12))),
    Fact.pure [15] (fun v => (inI A_c.width 1 12) = true → v = (Pt b16 8)),
    Fact.pure [16, 15] (fun v => (inI A_c.width 1 12) = true → v = (Iv A_c.height)),
    Fact.pure [17, 15] (fun v => (inI A_c.width 1 12) = true → v = (Bo (inI A_c.height 1 12))),
    Fact.pure [15, 18] (fun v => v = (Bo β1)),
    Fact.pure [19] (fun v => v = (Bo β1)),
    Fact.pure [20] (fun v => β1 = true → v = (Pt b16 6)),
    Fact.pure [21, 20] (fun v => β1 = true → v = (Fl r13)),
    Fact.pure [22, 20] (fun v => β1 = true → v = (Bo β2)),
    Fact.pure [20, 23] (fun v => v = (Bo (β1 && β2)))]) (by simp [Fact.pure, Fact.mem]) ?_
  refine RW_d (fun v85 => [(.agg #[(Fl r1), (Fl r3), (Fl r5), (Fl r7), (Fl r9), (Fl r11), (Fl r13), (Iv A_c.width), (Iv A_c.height)]), (Pt b16 0), (Bo false), (Pt b45 0), (Pt b53 0), (Pt b62 0), Ud, (.tuple #[(.agg #[(Fl r26), (Fl r28), (Fl r30)]), (.agg #[(Fl r32), (Fl r34), (Fl r36)]), (.agg #[(Fl r38), (Fl r40), (Fl r42)])]), (.tuple #[(.agg #[(Fl r26), (Fl r28), (Fl r30)]), (.agg #[(Fl r32), (Fl r34), (Fl r36)]), (.agg #[(Fl r38), (Fl r40), (Fl r42)])]), (.agg #[(Fl r26), (Fl r28), (Fl r30)]), (.agg #[(Fl r32), (Fl r34), (Fl r36)]), (.agg #[(Fl r38), (Fl r40), (Fl r42)]), v85, Ud, Ud, Ud, Ud, Ud, Ud, Ud, Ud, Ud, Ud, Ud, Ud, Ud, Ud, Ud, Ud, Ud, Ud, Ud, Ud, Ud, Ud, Ud, Ud, Ud, Ud, Ud, Ud, Ud, Ud, Ud, Ud, Ud]) rfl (fun _ => rfl) (fun u hu hF => ?_) (fun v85 => ?_)
  · clear hF
    refine doesG_un rfl ?_
    refine (does_fieldAddr (ev rfl) fa48_3).mono ?_; rintro _ _ ⟨rfl, rfl⟩
    exact ⟨rfl, Ext.refl _⟩
  refine RW_d (fun v86 => [(.agg #[(Fl r1), (Fl r3), (Fl r5), (Fl r7), (Fl r9), (Fl r11), (Fl r13), (Iv A_c.width), (Iv A_c.height)]), (Pt b16 0), (Bo false), (Pt b45 0), (Pt b53 0), (Pt b62 0), Ud, (.tuple #[(.agg #[(Fl r26), (Fl r28), (Fl r30)]), (.agg #[(Fl r32), (Fl r34), (Fl r36)]), (.agg #[(Fl r38), (Fl r40), (Fl r42)])]), (.tuple #[(.agg #[(Fl r26), (Fl r28), (Fl r30)]), (.agg #[(Fl r32), (Fl r34), (Fl r36)]), (.agg #[(Fl r38), (Fl r40), (Fl r42)])]), (.agg #[(Fl r26), (Fl r28), (Fl r30)]), (.agg #[(Fl r32), (Fl r34), (Fl r36)]), (.agg #[(Fl r38), (Fl r40), (Fl r42)]), v85, v86, Ud, Ud, Ud, Ud, Ud, Ud, Ud, Ud, Ud, Ud, Ud, Ud, Ud, Ud, Ud, Ud, Ud, Ud, Ud, Ud, Ud, Ud, Ud, Ud, Ud, Ud, Ud, Ud, Ud, Ud, Ud, Ud]) rfl (fun _ => rfl) (fun u hu hF => ?_) (fun v86 => ?_)
  · have h12_ : v85 = (Pt b16 7) := hF.1
    clear hF
    refine doesG_un rfl ?_
    obtain rfl := h12_
    refine (does_load (u := (Iv A_c.width)) (ev rfl) Try.isAgg2 (Cells.at (Blk.cells ((((((((hB18.ext E24).ext E48).ext E56).ext E65).wr W72 (Nat.ne_of_lt n50)).wr W76 (Nat.ne_of_lt n58)).wr W80 (Nat.ne_of_lt n67)).ext hu)) 7 rfl)).mono ?_; rintro _ _ ⟨rfl, rfl⟩
    exact ⟨rfl, Ext.refl _⟩
  refine RW_d (fun v87 => [(.agg #[(Fl r1), (Fl r3), (Fl r5), (Fl r7), (Fl r9), (Fl r11), (Fl r13), (Iv A_c.width), (Iv A_c.height)]), (Pt b16 0), (Bo false), (Pt b45 0), (Pt b53 0), (Pt b62 0), Ud, (.tuple #[(.agg #[(Fl r26), (Fl r28), (Fl r30)]), (.agg #[(Fl r32), (Fl r34), (Fl r36)]), (.agg #[(Fl r38), (Fl r40), (Fl r42)])]), (.tuple #[(.agg #[(Fl r26), (Fl r28), (Fl r30)]), (.agg #[(Fl r32), (Fl r34), (Fl r36)]), (.agg #[(Fl r38), (Fl r40), (Fl r42)])]), (.agg #[(Fl r26), (Fl r28), (Fl r30)]), (.agg #[(Fl r32), (Fl r34), (Fl r36)]), (.agg #[(Fl r38), (Fl r40), (Fl r42)]), v85, v86, v87, Ud, Ud, Ud, Ud, Ud, Ud, Ud, Ud, Ud, Ud, Ud, Ud, Ud, Ud, Ud, Ud, Ud, Ud, Ud, Ud, Ud, Ud, Ud, Ud, Ud, Ud, Ud, Ud, Ud, Ud, Ud]) rfl (fun _ => rfl) (fun u hu hF => ?_) (fun v87 => ?_)
  · have h13_ : v86 = (Iv A_c.width) := hF.1
    clear hF
    refine doesG_un rfl ?_
    obtain rfl := h13_
    refine (does_call (args := #[(Iv A_c.width), (Iv 1), (Iv 12)]) cal56 (evs rfl) (c_impl_in A_c.width 1 12 _)).mono ?_; rintro v u' ⟨hx, hv⟩
    exact ⟨hv, hx⟩
  refine RW_d (fun v88 => [(.agg #[(Fl r1), (Fl r3), (Fl r5), (Fl r7), (Fl r9), (Fl r11), (Fl r13), (Iv A_c.width), (Iv A_c.height)]), (Pt b16 0), (Bo false), (Pt b45 0), (Pt b53 0), (Pt b62 0), Ud, (.tuple #[(.agg #[(Fl r26), (Fl r28), (Fl r30)]), (.agg #[(Fl r32), (Fl r34), (Fl r36)]), (.agg #[(Fl r38), (Fl r40), (Fl r42)])]), (.tuple #[(.agg #[(Fl r26), (Fl r28), (Fl r30)]), (.agg #[(Fl r32), (Fl r34), (Fl r36)]), (.agg #[(Fl r38), (Fl r40), (Fl r42)])]), (.agg #[(Fl r26), (Fl r28), (Fl r30)]), (.agg #[(Fl r32), (Fl r34), (Fl r36)]), (.agg #[(Fl r38), (Fl r40), (Fl r42)]), v85, v86, v87, v88, Ud, Ud, Ud, Ud, Ud, Ud, Ud, Ud, Ud, Ud, Ud, Ud, Ud, Ud, Ud, Ud, Ud, Ud, Ud, Ud, Ud, Ud, Ud, Ud, Ud, Ud, Ud, Ud, Ud, Ud]) rfl (fun _ => rfl) (fun u hu hF => ?_) (fun v88 => ?_)
  · have h14_ : v87 = (Bo (inI A_c.width 1 12)) := hF.1
    clear hF
    refine doesG_un rfl ?_
    obtain rfl := h14_
    refine (does_move (u := (Bo (inI A_c.width 1 12))) (ev rfl)).mono ?_; rintro _ _ ⟨rfl, rfl⟩
    exact ⟨rfl, Ext.refl _⟩
  refine RW_d (fun v89 => [(.agg #[(Fl r1), (Fl r3), (Fl r5), (Fl r7), (Fl r9), (Fl r11), (Fl r13), (Iv A_c.width), (Iv A_c.height)]), (Pt b16 0), (Bo false), (Pt b45 0), (Pt b53 0), (Pt b62 0), Ud, (.tuple #[(.agg #[(Fl r26), (Fl r28), (Fl r30)]), (.agg #[(Fl r32), (Fl r34), (Fl r36)]), (.agg #[(Fl r38), (Fl r40), (Fl r42)])]), (.tuple #[(.agg #[(Fl r26), (Fl r28), (Fl r30)]), (.agg #[(Fl r32), (Fl r34), (Fl r36)]), (.agg #[(Fl r38), (Fl r40), (Fl r42)])]), (.agg #[(Fl r26), (Fl r28), (Fl r30)]), (.agg #[(Fl r32), (Fl r34), (Fl r36)]), (.agg #[(Fl r38), (Fl r40), (Fl r42)]), v85, v86, v87, v88, v89, Ud, Ud, Ud, Ud, Ud, Ud, Ud, Ud, Ud, Ud, Ud, Ud, Ud, Ud, Ud, Ud, Ud, Ud, Ud, Ud, Ud, Ud, Ud, Ud, Ud, Ud, Ud, Ud, Ud]) rfl (fun _ => rfl) (fun u hu hF => ?_) (fun v89 => ?_)
  · have h15_ : v88 = (Bo (inI A_c.width 1 12)) := hF.1
    clear hF
    obtain rfl := h15_
    refine doesG_g (b := (inI A_c.width 1 12)) rfl (yld rfl rfl) (fun hg1 => ?_) (fun hc => ⟨fun hg1 => absurd hg1 hc, Ext.refl _⟩)
    refine (does_fieldAddr (ev rfl) fa48_4).mono ?_; rintro _ _ ⟨rfl, rfl⟩
    exact ⟨fun _ => rfl, Ext.refl _⟩
  refine RW_d (fun v90 => [(.agg #[(Fl r1), (Fl r3), (Fl r5), (Fl r7), (Fl r9), (Fl r11), (Fl r13), (Iv A_c.width), (Iv A_c.height)]), (Pt b16 0), (Bo false), (Pt b45 0), (Pt b53 0), (Pt b62 0), Ud, (.tuple #[(.agg #[(Fl r26), (Fl r28), (Fl r30)]), (.agg #[(Fl r32), (Fl r34), (Fl r36)]), (.agg #[(Fl r38), (Fl r40), (Fl r42)])]), (.tuple #[(.agg #[(Fl r26), (Fl r28), (Fl r30)]), (.agg #[(Fl r32), (Fl r34), (Fl r36)]), (.agg #[(Fl r38), (Fl r40), (Fl r42)])]), (.agg #[(Fl r26), (Fl r28), (Fl r30)]), (.agg #[(Fl r32), (Fl r34), (Fl r36)]), (.agg #[(Fl r38), (Fl r40), (Fl r42)]), v85, v86, v87, v88, v89, v90, Ud, Ud, Ud, Ud, Ud, Ud, Ud, Ud, Ud, Ud, Ud, Ud, Ud, Ud, Ud, Ud, Ud, Ud, Ud, Ud, Ud, Ud, Ud, Ud, Ud, Ud, Ud, Ud]) rfl (fun _ => rfl) (fun u hu hF => ?_) (fun v90 => ?_)
  · have h16_ : (inI A_c.width 1 12) = true → v89 = (Pt b16 8) := hF.1
    have h15_ : v88 = (Bo (inI A_c.width 1 12)) := hF.2.1
    clear hF
    obtain rfl := h15_
    refine doesG_g (b := (inI A_c.width 1 12)) rfl (yld rfl rfl) (fun hg1 => ?_) (fun hc => ⟨fun hg1 => absurd hg1 hc, Ext.refl _⟩)
    obtain rfl := h16_ hg1
    refine (does_load (u := (Iv A_c.height)) (ev rfl) Try.isAgg2 (Cells.at (Blk.cells ((((((((hB18.ext E24).ext E48).ext E56).ext E65).wr W72 (Nat.ne_of_lt n50)).wr W76 (Nat.ne_of_lt n58)).wr W80 (Nat.ne_of_lt n67)).ext hu)) 8 rfl)).mono ?_; rintro _ _ ⟨rfl, rfl⟩
    exact ⟨fun _ => rfl, Ext.refl _⟩
  refine RW_d (fun v91 => [(.agg #[(Fl r1), (Fl r3), (Fl r5), (Fl r7), (Fl r9), (Fl r11), (Fl r13), (Iv A_c.width), (Iv A_c.height)]), (Pt b16 0), (Bo false), (Pt b45 0), (Pt b53 0), (Pt b62 0), Ud, (.tuple #[(.agg #[(Fl r26), (Fl r28), (Fl r30)]), (.agg #[(Fl r32), (Fl r34), (Fl r36)]), (.agg #[(Fl r38), (Fl r40), (Fl r42)])]), (.tuple #[(.agg #[(Fl r26), (Fl r28), (Fl r30)]), (.agg #[(Fl r32), (Fl r34), (Fl r36)]), (.agg #[(Fl r38), (Fl r40), (Fl r42)])]), (.agg #[(Fl r26), (Fl r28), (Fl r30)]), (.agg #[(Fl r32), (Fl r34), (Fl r36)]), (.agg #[(Fl r38), (Fl r40), (Fl r42)]), v85, v86, v87, v88, v89, v90, v91, Ud, Ud, Ud, Ud, Ud, Ud, Ud, Ud, Ud, Ud, Ud, Ud, Ud, Ud, Ud, Ud, Ud, Ud, Ud, Ud, Ud, Ud, Ud, Ud, Ud, Ud, Ud]) rfl (fun _ => rfl) (fun u hu hF => ?_) (fun v91 => ?_)
  · have h17_ : (inI A_c.width 1 12) = true → v90 = (Iv A_c.height) := hF.1
    have h15_ : v88 = (Bo (inI A_c.width 1 12)) := hF.2.1
    clear hF
    obtain rfl := h15_
    refine doesG_g (b := (inI A_c.width 1 12)) rfl (yld rfl rfl) (fun hg1 => ?_) (fun hc => ⟨fun hg1 => absurd hg1 hc, Ext.refl _⟩)
    obtain rfl := h17_ hg1
    refine (does_call (args := #[(Iv A_c.height), (Iv 1), (Iv 12)]) cal56 (evs rfl) (c_impl_in A_c.height 1 12 _)).mono ?_; rintro v u' ⟨hx, hv⟩
    exact ⟨fun _ => hv, hx⟩
  refine RW_d (fun v92 => [(.agg #[(Fl r1), (Fl r3), (Fl r5), (Fl r7), (Fl r9), (Fl r11), (Fl r13), (Iv A_c.width), (Iv A_c.height)]), (Pt b16 0), (Bo false), (Pt b45 0), (Pt b53 0), (Pt b62 0), Ud, (.tuple #[(.agg #[(Fl r26), (Fl r28), (Fl r30)]), (.agg #[(Fl r32), (Fl r34), (Fl r36)]), (.agg #[(Fl r38), (Fl r40), (Fl r42)])]), (.tuple #[(.agg #[(Fl r26), (Fl r28), (Fl r30)]), (.agg #[(Fl r32), (Fl r34), (Fl r36)]), (.agg #[(Fl r38), (Fl r40), (Fl r42)])]), (.agg #[(Fl r26), (Fl r28), (Fl r30)]), (.agg #[(Fl r32), (Fl r34), (Fl r36)]), (.agg #[(Fl r38), (Fl r40), (Fl r42)]), v85, v86, v87, v88, v89, v90, v91, v92, Ud, Ud, Ud, Ud, Ud, Ud, Ud, Ud, Ud, Ud, Ud, Ud, Ud, Ud, Ud, Ud, Ud, Ud, Ud, Ud, Ud, Ud, Ud, Ud, Ud, Ud]) rfl (fun _ => rfl) (fun u hu hF => ?_) (fun v92 => ?_)
  · have h15_ : v88 = (Bo (inI A_c.width 1 12)) := hF.1
    have h18_ : (inI A_c.width 1 12) = true → v91 = (Bo (inI A_c.height 1 12)) := hF.2.1
    clear hF
    refine doesG_un rfl ?_
    skip
    obtain rfl := h15_
    refine (does_pick (b := (inI A_c.width 1 12)) (ev rfl) (ev rfl) (ev rfl)).mono ?_; rintro _ _ ⟨rfl, rfl⟩; refine ⟨?_, Ext.refl _⟩; rw [hβ1]; skip
    cases hbb : (inI A_c.width 1 12) <;> simp [hbb] at h18_ ⊢
    all_goals (first | rfl | (subst h18_; rfl) | simp_all)
  refine RW_d (fun v93 => [(.agg #[(Fl r1), (Fl r3), (Fl r5), (Fl r7), (Fl r9), (Fl r11), (Fl r13), (Iv A_c.width), (Iv A_c.height)]), (Pt b16 0), (Bo false), (Pt b45 0), (Pt b53 0), (Pt b62 0), Ud, (.tuple #[(.agg #[(Fl r26), (Fl r28), (Fl r30)]), (.agg #[(Fl r32), (Fl r34), (Fl r36)]), (.agg #[(Fl r38), (Fl r40), (Fl r42)])]), (.tuple #[(.agg #[(Fl r26), (Fl r28), (Fl r30)]), (.agg #[(Fl r32), (Fl r34), (Fl r36)]), (.agg #[(Fl r38), (Fl r40), (Fl r42)])]), (.agg #[(Fl r26), (Fl r28), (Fl r30)]), (.agg #[(Fl r32), (Fl r34), (Fl r36)]), (.agg #[(Fl r38), (Fl r40), (Fl r42)]), v85, v86, v87, v88, v89, v90, v91, v92, v93, Ud, Ud, Ud, Ud, Ud, Ud, Ud, Ud, Ud, Ud, Ud, Ud, Ud, Ud, Ud, Ud, Ud, Ud, Ud, Ud, Ud, Ud, Ud, Ud, Ud]) rfl (fun _ => rfl) (fun u hu hF => ?_) (fun v93 => ?_)
  · have h19_ : v92 = (Bo β1) := hF.1
    clear hF
    refine doesG_un rfl ?_
    obtain rfl := h19_
    refine (does_move (u := (Bo β1)) (ev rfl)).mono ?_; rintro _ _ ⟨rfl, rfl⟩
    exact ⟨rfl, Ext.refl _⟩
  refine RW_d (fun v94 => [(.agg #[(Fl r1), (Fl r3), (Fl r5), (Fl r7), (Fl r9), (Fl r11), (Fl r13), (Iv A_c.width), (Iv A_c.height)]), (Pt b16 0), (Bo false), (Pt b45 0), (Pt b53 0), (Pt b62 0), Ud, (.tuple #[(.agg #[(Fl r26), (Fl r28), (Fl r30)]), (.agg #[(Fl r32), (Fl r34), (Fl r36)]), (.agg #[(Fl r38), (Fl r40), (Fl r42)])]), (.tuple #[(.agg #[(Fl r26), (Fl r28), (Fl r30)]), (.agg #[(Fl r32), (Fl r34), (Fl r36)]), (.agg #[(Fl r38), (Fl r40), (Fl r42)])]), (.agg #[(Fl r26), (Fl r28), (Fl r30)]), (.agg #[(Fl r32), (Fl r34), (Fl r36)]), (.agg #[(Fl r38), (Fl r40), (Fl r42)]), v85, v86, v87, v88, v89, v90, v91, v92, v93, v94, Ud, Ud, Ud, Ud, Ud, Ud, Ud, Ud, Ud, Ud, Ud, Ud, Ud, Ud, Ud, Ud, Ud, Ud, Ud, Ud, Ud, Ud, Ud, Ud]) rfl (fun _ => rfl) (fun u hu hF => ?_) (fun v94 => ?_)
  · have h20_ : v93 = (Bo β1) := hF.1
    clear hF
    obtain rfl := h20_
    refine doesG_g (b := β1) rfl (yld rfl rfl) (fun hg1 => ?_) (fun hc => ⟨fun hg1 => absurd hg1 hc, Ext.refl _⟩)
    refine (does_fieldAddr (ev rfl) fa48_2).mono ?_; rintro _ _ ⟨rfl, rfl⟩
    exact ⟨fun _ => rfl, Ext.refl _⟩
  refine RW_d (fun v95 => [(.agg #[(Fl r1), (Fl r3), (Fl r5), (Fl r7), (Fl r9), (Fl r11), (Fl r13), (Iv A_c.width), (Iv A_c.height)]), (Pt b16 0), (Bo false), (Pt b45 0), (Pt b53 0), (Pt b62 0), Ud, (.tuple #[(.agg #[(Fl r26), (Fl r28), (Fl r30)]), (.agg #[(Fl r32), (Fl r34), (Fl r36)]), (.agg #[(Fl r38), (Fl r40), (Fl r42)])]), (.tuple #[(.agg #[(Fl r26), (Fl r28), (Fl r30)]), (.agg #[(Fl r32), (Fl r34), (Fl r36)]), (.agg #[(Fl r38), (Fl r40), (Fl r42)])]), (.agg #[(Fl r26), (Fl r28), (Fl r30)]), (.agg #[(Fl r32), (Fl r34), (Fl r36)]), (.agg #[(Fl r38), (Fl r40), (Fl r42)]), v85, v86, v87, v88, v89, v90, v91, v92, v93, v94, v95, Ud, Ud, Ud, Ud, Ud, Ud, Ud, Ud, Ud, Ud, Ud, Ud, Ud, Ud, Ud, Ud, Ud, Ud, Ud, Ud, Ud, Ud, Ud]) rfl (fun _ => rfl) (fun u hu hF => ?_) (fun v95 => ?_)
  · have h21_ : β1 = true → v94 = (Pt b16 6) := hF.1
    have h20_ : v93 = (Bo β1) := hF.2.1
    clear hF
    obtain rfl := h20_
    refine doesG_g (b := β1) rfl (yld rfl rfl) (fun hg1 => ?_) (fun hc => ⟨fun hg1 => absurd hg1 hc, Ext.refl _⟩)
    obtain rfl := h21_ hg1
    refine (does_load (u := (Fl r13)) (ev rfl) Try.isAgg24 (Cells.at (Blk.cells ((((((((hB18.ext E24).ext E48).ext E56).ext E65).wr W72 (Nat.ne_of_lt n50)).wr W76 (Nat.ne_of_lt n58)).wr W80 (Nat.ne_of_lt n67)).ext hu)) 6 rfl)).mono ?_; rintro _ _ ⟨rfl, rfl⟩
    exact ⟨fun _ => rfl, Ext.refl _⟩
  refine RW_d (fun v96 => [(.agg #[(Fl r1), (Fl r3), (Fl r5), (Fl r7), (Fl r9), (Fl r11), (Fl r13), (Iv A_c.width), (Iv A_c.height)]), (Pt b16 0), (Bo false), (Pt b45 0), (Pt b53 0), (Pt b62 0), Ud, (.tuple #[(.agg #[(Fl r26), (Fl r28), (Fl r30)]), (.agg #[(Fl r32), (Fl r34), (Fl r36)]), (.agg #[(Fl r38), (Fl r40), (Fl r42)])]), (.tuple #[(.agg #[(Fl r26), (Fl r28), (Fl r30)]), (.agg #[(Fl r32), (Fl r34), (Fl r36)]), (.agg #[(Fl r38), (Fl r40), (Fl r42)])]), (.agg #[(Fl r26), (Fl r28), (Fl r30)]), (.agg #[(Fl r32), (Fl r34), (Fl r36)]), (.agg #[(Fl r38), (Fl r40), (Fl r42)]), v85, v86, v87, v88, v89, v90, v91, v92, v93, v94, v95, v96, Ud, Ud, Ud, Ud, Ud, Ud, Ud, Ud, Ud, Ud, Ud, Ud, Ud, Ud, Ud, Ud, Ud, Ud, Ud, Ud, Ud, Ud]) rfl (fun _ => rfl) (fun u hu hF => ?_) (fun v96 => ?_)
  · have h22_ : β1 = true → v95 = (Fl r13) := hF.1
    have h20_ : v93 = (Bo β1) := hF.2.1
    clear hF
    obtain rfl := h20_
    refine doesG_g (b := β1) rfl (yld rfl rfl) (fun hg1 => ?_) (fun hc => ⟨fun hg1 => absurd hg1 hc, Ext.refl _⟩)
    obtain rfl := h22_ hg1
    refine (does_call (args := #[(Fl r13)]) cal66 (evs rfl) (c_impl_stepOk r13 _)).mono ?_; rintro v u' ⟨hx, hv⟩
    exact ⟨fun _ => hv.trans (by simp only [hβ2]), hx⟩
  refine RW_d (fun v97 => [(.agg #[(Fl r1), (Fl r3), (Fl r5), (Fl r7), (Fl r9), (Fl r11), (Fl r13), (Iv A_c.width), (Iv A_c.height)]), (Pt b16 0), (Bo false), (Pt b45 0), (Pt b53 0), (Pt b62 0), Ud, (.tuple #[(.agg #[(Fl r26), (Fl r28), (Fl r30)]), (.agg #[(Fl r32), (Fl r34), (Fl r36)]), (.agg #[(Fl r38), (Fl r40), (Fl r42)])]), (.tuple #[(.agg #[(Fl r26), (Fl r28), (Fl r30)]), (.agg #[(Fl r32), (Fl r34), (Fl r36)]), (.agg #[(Fl r38), (Fl r40), (Fl r42)])]), (.agg #[(Fl r26), (Fl r28), (Fl r30)]), (.agg #[(Fl r32), (Fl r34), (Fl r36)]), (.agg #[(Fl r38), (Fl r40), (Fl r42)]), v85, v86, v87, v88, v89, v90, v91, v92, v93, v94, v95, v96, v97, Ud, Ud, Ud, Ud, Ud, Ud, Ud, Ud, Ud, Ud, Ud, Ud, Ud, Ud, Ud, Ud, Ud, Ud, Ud, Ud, Ud]) rfl (fun _ => rfl) (fun u hu hF => ?_) (fun v97 => ?_)
  · have h20_ : v93 = (Bo β1) := hF.1
    have h23_ : β1 = true → v96 = (Bo β2) := hF.2.1
    clear hF
    refine doesG_un rfl ?_
    skip
    obtain rfl := h20_
    refine (does_pick (b := β1) (ev rfl) (ev rfl) (ev rfl)).mono ?_; rintro _ _ ⟨rfl, rfl⟩; refine ⟨?_, Ext.refl _⟩; skip
    cases hbb : β1 <;> simp [hbb] at h23_ ⊢
    all_goals (first | rfl | (subst h23_; rfl) | simp_all)
  refine RW_fin ?_; intro w98 E99 hP100
  obtain ⟨⟨⟨⟨⟨⟨⟨⟨⟨⟨⟨⟨⟨-, -⟩, -⟩, -⟩, -⟩, -⟩, -⟩, -⟩, -⟩, -⟩, -⟩, -⟩, -⟩, q101⟩ := hP100
  have X102 := Ext.gr X83 E99
  have q101 : v97 = (Bo (β1 && β2)) := q101
  obtain rfl := q101
  show wpList _ _ _ _ (fr [(.agg #[(Fl r1), (Fl r3), (Fl r5), (Fl r7), (Fl r9), (Fl r11), (Fl r13), (Iv A_c.width), (Iv A_c.height)]), (Pt b16 0), (Bo false), (Pt b45 0), (Pt b53 0), (Pt b62 0), Ud, (.tuple #[(.agg #[(Fl r26), (Fl r28), (Fl r30)]), (.agg #[(Fl r32), (Fl r34), (Fl r36)]), (.agg #[(Fl r38), (Fl r40), (Fl r42)])]), (.tuple #[(.agg #[(Fl r26), (Fl r28), (Fl r30)]), (.agg #[(Fl r32), (Fl r34), (Fl r36)]), (.agg #[(Fl r38), (Fl r40), (Fl r42)])]), (.agg #[(Fl r26), (Fl r28), (Fl r30)]), (.agg #[(Fl r32), (Fl r34), (Fl r36)]), (.agg #[(Fl r38), (Fl r40), (Fl r42)]), v85, v86, v87, v88, v89, v90, v91, v92, v93, v94, v95, v96, (Bo (β1 && β2)), Ud, Ud, Ud, Ud, Ud, Ud, Ud, Ud, Ud, Ud, Ud, Ud, Ud, Ud, Ud, Ud, Ud, Ud, Ud, Ud, Ud]) _
  refine q_is (l' := [(.agg #[(Fl r1), (Fl r3), (Fl r5), (Fl r7), (Fl r9), (Fl r11), (Fl r13), (Iv A_c.width), (Iv A_c.height)]), (Pt b16 0), (Bo false), (Pt b45 0), (Pt b53 0), (Pt b62 0), (Bo (β1 && β2)), (.tuple #[(.agg #[(Fl r26), (Fl r28), (Fl r30)]), (.agg #[(Fl r32), (Fl r34), (Fl r36)]), (.agg #[(Fl r38), (Fl r40), (Fl r42)])]), (.tuple #[(.agg #[(Fl r26), (Fl r28), (Fl r30)]), (.agg #[(Fl r32), (Fl r34), (Fl r36)]), (.agg #[(Fl r38), (Fl r40), (Fl r42)])]), (.agg #[(Fl r26), (Fl r28), (Fl r30)]), (.agg #[(Fl r32), (Fl r34), (Fl r36)]), (.agg #[(Fl r38), (Fl r40), (Fl r42)]), v85, v86, v87, v88, v89, v90, v91, v92, v93, v94, v95, v96, (Bo (β1 && β2)), Ud, Ud, Ud, Ud, Ud, Ud, Ud, Ud, Ud, Ud, Ud, Ud, Ud, Ud, Ud, Ud, Ud, Ud, Ud, Ud, Ud]) rfl rfl (does_assign (u := (Bo (β1 && β2))) (ev rfl)) rfl ?_
  refine wpList_nil (hK84 _ _ ?_)
  refine wp_seq_k fun K103 hK103 => ?_
  obtain ⟨β3, hβ3⟩ : ∃ b : Bool, b = ((β1 && β2) && (finV A_c.frm)) := ⟨_, rfl⟩
  obtain ⟨β4, hβ4⟩ : ∃ b : Bool, b = ((β3 && (finV A_c.to)) && (!(zeroV (rgtC A_c)))) := ⟨_, rfl⟩
  obtain ⟨β5, hβ5⟩ : ∃ b : Bool, b = (β4 && (!(zeroV (fwdC A_c)))) := ⟨_, rfl⟩
  refine region_text (
    [Fact.pure [] (fun v => v = (Bo (β1 && β2))),
    Fact.pure [25] (fun v => v = (Bo (β1 && β2))),
    Fact.pure [26] (fun v => (β1 && β2) = true → v = (Pt b16 0)),
    Fact.pure [27, 26] (fun v => (β1 && β2) = true → v = (.agg #[(Fl r1), (Fl r3), (Fl r5)])),
    Fact.pure [28, 26] (fun v => (β1 && β2) = true → v = (Bo (finV A_c.frm))),
    Fact.pure [26, 29] (fun v => v = (Bo β3)),
    Fact.pure [30] (fun v => v = (Bo β3)),
    Fact.pure [31] (fun v => β3 = true → v = (Pt b16 3)),
    Fact.pure [32, 31] (fun v => β3 = true → v = (.agg #[(Fl r7), (Fl r9), (Fl r11)])),
    Fact.pure [33, 31] (fun v => β3 = true → v = (Bo (finV A_c.to))),
    Fact.pure [31, 34] (fun v => v = (Bo (β3 && (finV A_c.to)))),
    Fact.pure [35] (fun v => v = (Bo (β3 && (finV A_c.to)))),
    Fact.pure [36] (fun v => (β3 && (finV A_c.to)) = true → v = (.agg #[(Fl r26), (Fl r28), (Fl r30)])),
    Fact.pure [37, 36] (fun v => (β3 && (finV A_c.to)) = true → v = (Bo (zeroV (rgtC A_c)))),
    Fact.pure [38, 36] (fun v => (β3 && (finV A_c.to)) = true → v = (Bo (!(zeroV (rgtC A_c))))),
    Fact.pure [36, 39] (fun v => v = (Bo β4)),
    Fact.pure [40] (fun v => v = (Bo β4)),
    Fact.pure [41] (fun v => β4 = true → v = (.agg #[(Fl r38), (Fl r40), (Fl r42)])),
    Fact.pure [42, 41] (fun v => β4 = true → v = (Bo (zeroV (fwdC A_c)))),
    Fact.pure [43, 41] (fun v => β4 = true → v = (Bo (!(zeroV (fwdC A_c))))),
    Fact.pure [41, 44] (fun v => v = (Bo β5))]) (by simp [Fact.pure, Fact.mem]) ?_
  refine RW_d (fun v104 => [(.agg #[(Fl r1), (Fl r3), (Fl r5), (Fl r7), (Fl r9), (Fl r11), (Fl r13), (Iv A_c.width), (Iv A_c.height)]), (Pt b16 0), (Bo false), (Pt b45 0), (Pt b53 0), (Pt b62 0), (Bo (β1 && β2)), (.tuple #[(.agg #[(Fl r26), (Fl r28), (Fl r30)]), (.agg #[(Fl r32), (Fl r34), (Fl r36)]), (.agg #[(Fl r38), (Fl r40), (Fl r42)])]), (.tuple #[(.agg #[(Fl r26), (Fl r28), (Fl r30)]), (.agg #[(Fl r32), (Fl r34), (Fl r36)]), (.agg #[(Fl r38), (Fl r40), (Fl r42)])]), (.agg #[(Fl r26), (Fl r28), (Fl r30)]), (.agg #[(Fl r32), (Fl r34), (Fl r36)]), (.agg #[(Fl r38), (Fl r40), (Fl r42)]), v85, v86, v87, v88, v89, v90, v91, v92, v93, v94, v95, v96, (Bo (β1 && β2)), v104, Ud, Ud, Ud, Ud, Ud, Ud, Ud, Ud, Ud, Ud, Ud, Ud, Ud, Ud, Ud, Ud, Ud, Ud, Ud, Ud]) rfl (fun _ => rfl) (fun u hu hF => ?_) (fun v104 => ?_)
  · clear hF
    refine doesG_un rfl ?_
    refine (does_move (u := (Bo (β1 && β2))) (ev rfl)).mono ?_; rintro _ _ ⟨rfl, rfl⟩
    exact ⟨rfl, Ext.refl _⟩
  refine RW_d (fun v105 => [(.agg #[(Fl r1), (Fl r3), (Fl r5), (Fl r7), (Fl r9), (Fl r11), (Fl r13), (Iv A_c.width), (Iv A_c.height)]), (Pt b16 0), (Bo false), (Pt b45 0), (Pt b53 0), (Pt b62 0), (Bo (β1 && β2)), (.tuple #[(.agg #[(Fl r26), (Fl r28), (Fl r30)]), (.agg #[(Fl r32), (Fl r34), (Fl r36)]), (.agg #[(Fl r38), (Fl r40), (Fl r42)])]), (.tuple #[(.agg #[(Fl r26), (Fl r28), (Fl r30)]), (.agg #[(Fl r32), (Fl r34), (Fl r36)]), (.agg #[(Fl r38), (Fl r40), (Fl r42)])]), (.agg #[(Fl r26), (Fl r28), (Fl r30)]), (.agg #[(Fl r32), (Fl r34), (Fl r36)]), (.agg #[(Fl r38), (Fl r40), (Fl r42)]), v85, v86, v87, v88, v89, v90, v91, v92, v93, v94, v95, v96, (Bo (β1 && β2)), v104, v105, Ud, Ud, Ud, Ud, Ud, Ud, Ud, Ud, Ud, Ud, Ud, Ud, Ud, Ud, Ud, Ud, Ud, Ud, Ud]) rfl (fun _ => rfl) (fun u hu hF => ?_) (fun v105 => ?_)
  · have h25_ : v104 = (Bo (β1 && β2)) := hF.1
    clear hF
    refine doesG_un rfl ?_
    obtain rfl := h25_
    refine (does_move (u := (Bo (β1 && β2))) (ev rfl)).mono ?_; rintro _ _ ⟨rfl, rfl⟩
    exact ⟨rfl, Ext.refl _⟩
  refine RW_d (fun v106 => [(.agg #[(Fl r1), (Fl r3), (Fl r5), (Fl r7), (Fl r9), (Fl r11), (Fl r13), (Iv A_c.width), (Iv A_c.height)]), (Pt b16 0), (Bo false), (Pt b45 0), (Pt b53 0), (Pt b62 0), (Bo (β1 && β2)), (.tuple #[(.agg #[(Fl r26), (Fl r28), (Fl r30)]), (.agg #[(Fl r32), (Fl r34), (Fl r36)]), (.agg #[(Fl r38), (Fl r40), (Fl r42)])]), (.tuple #[(.agg #[(Fl r26), (Fl r28), (Fl r30)]), (.agg #[(Fl r32), (Fl r34), (Fl r36)]), (.agg #[(Fl r38), (Fl r40), (Fl r42)])]), (.agg #[(Fl r26), (Fl r28), (Fl r30)]), (.agg #[(Fl r32), (Fl r34), (Fl r36)]), (.agg #[(Fl r38), (Fl r40), (Fl r42)]), v85, v86, v87, v88, v89, v90, v91, v92, v93, v94, v95, v96, (Bo (β1 && β2)), v104, v105, v106, Ud, Ud, Ud, Ud, Ud, Ud, Ud, Ud, Ud, Ud, Ud, Ud, Ud, Ud, Ud, Ud, Ud, Ud]) rfl (fun _ => rfl) (fun u hu hF => ?_) (fun v106 => ?_)
  · have h26_ : v105 = (Bo (β1 && β2)) := hF.1
    clear hF
    obtain rfl := h26_
    refine doesG_g (b := (β1 && β2)) rfl (yld rfl rfl) (fun hg1 => ?_) (fun hc => ⟨fun hg1 => absurd hg1 hc, Ext.refl _⟩)
    refine (does_fieldAddr (ev rfl) fa48_0).mono ?_; rintro _ _ ⟨rfl, rfl⟩
    exact ⟨fun _ => rfl, Ext.refl _⟩
  refine RW_d (fun v107 => [(.agg #[(Fl r1), (Fl r3), (Fl r5), (Fl r7), (Fl r9), (Fl r11), (Fl r13), (Iv A_c.width), (Iv A_c.height)]), (Pt b16 0), (Bo false), (Pt b45 0), (Pt b53 0), (Pt b62 0), (Bo (β1 && β2)), (.tuple #[(.agg #[(Fl r26), (Fl r28), (Fl r30)]), (.agg #[(Fl r32), (Fl r34), (Fl r36)]), (.agg #[(Fl r38), (Fl r40), (Fl r42)])]), (.tuple #[(.agg #[(Fl r26), (Fl r28), (Fl r30)]), (.agg #[(Fl r32), (Fl r34), (Fl r36)]), (.agg #[(Fl r38), (Fl r40), (Fl r42)])]), (.agg #[(Fl r26), (Fl r28), (Fl r30)]), (.agg #[(Fl r32), (Fl r34), (Fl r36)]), (.agg #[(Fl r38), (Fl r40), (Fl r42)]), v85, v86, v87, v88, v89, v90, v91, v92, v93, v94, v95, v96, (Bo (β1 && β2)), v104, v105, v106, v107, Ud, Ud, Ud, Ud, Ud, Ud, Ud, Ud, Ud, Ud, Ud, Ud, Ud, Ud, Ud, Ud, Ud]) rfl (fun _ => rfl) (fun u hu hF => ?_) (fun v107 => ?_)
  · have h27_ : (β1 && β2) = true → v106 = (Pt b16 0) := hF.1
    have h26_ : v105 = (Bo (β1 && β2)) := hF.2.1
    clear hF
    obtain rfl := h26_
    refine doesG_g (b := (β1 && β2)) rfl (yld rfl rfl) (fun hg1 => ?_) (fun hc => ⟨fun hg1 => absurd hg1 hc, Ext.refl _⟩)
    obtain rfl := h27_ hg1
    refine (does_loadAgg (cs := [(Fl r1), (Fl r3), (Fl r5)]) (ev rfl) Try.isAgg26 Try.sizeOf26 (Cells.sub (Blk.cells (((((((((hB18.ext E24).ext E48).ext E56).ext E65).wr W72 (Nat.ne_of_lt n50)).wr W76 (Nat.ne_of_lt n58)).wr W80 (Nat.ne_of_lt n67)).ext E99).ext hu)) 0 3) rfl).mono ?_; rintro _ _ ⟨rfl, rfl⟩
    exact ⟨fun _ => rfl, Ext.refl _⟩
  refine RW_d (fun v108 => [(.agg #[(Fl r1), (Fl r3), (Fl r5), (Fl r7), (Fl r9), (Fl r11), (Fl r13), (Iv A_c.width), (Iv A_c.height)]), (Pt b16 0), (Bo false), (Pt b45 0), (Pt b53 0), (Pt b62 0), (Bo (β1 && β2)), (.tuple #[(.agg #[(Fl r26), (Fl r28), (Fl r30)]), (.agg #[(Fl r32), (Fl r34), (Fl r36)]), (.agg #[(Fl r38), (Fl r40), (Fl r42)])]), (.tuple #[(.agg #[(Fl r26), (Fl r28), (Fl r30)]), (.agg #[(Fl r32), (Fl r34), (Fl r36)]), (.agg #[(Fl r38), (Fl r40), (Fl r42)])]), (.agg #[(Fl r26), (Fl r28), (Fl r30)]), (.agg #[(Fl r32), (Fl r34), (Fl r36)]), (.agg #[(Fl r38), (Fl r40), (Fl r42)]), v85, v86, v87, v88, v89, v90, v91, v92, v93, v94, v95, v96, (Bo (β1 && β2)), v104, v105, v106, v107, v108, Ud, Ud, Ud, Ud, Ud, Ud, Ud, Ud, Ud, Ud, Ud, Ud, Ud, Ud, Ud, Ud]) rfl (fun _ => rfl) (fun u hu hF => ?_) (fun v108 => ?_)
  · have h28_ : (β1 && β2) = true → v107 = (.agg #[(Fl r1), (Fl r3), (Fl r5)]) := hF.1
    have h26_ : v105 = (Bo (β1 && β2)) := hF.2.1
    clear hF
    obtain rfl := h26_
    refine doesG_g (b := (β1 && β2)) rfl (yld rfl rfl) (fun hg1 => ?_) (fun hc => ⟨fun hg1 => absurd hg1 hc, Ext.refl _⟩)
    obtain rfl := h28_ hg1
    refine (does_call (args := #[(.agg #[(Fl r1), (Fl r3), (Fl r5)])]) cal57 (evs rfl) (c_impl_finiteVector [(Fl r1), (Fl r3), (Fl r5)] A_c.frm _ ⟨r1, r3, r5, rfl, h2, h4, h6⟩)).mono ?_; rintro v u' ⟨hx, hv⟩
    exact ⟨fun _ => hv, hx⟩
  refine RW_d (fun v109 => [(.agg #[(Fl r1), (Fl r3), (Fl r5), (Fl r7), (Fl r9), (Fl r11), (Fl r13), (Iv A_c.width), (Iv A_c.height)]), (Pt b16 0), (Bo false), (Pt b45 0), (Pt b53 0), (Pt b62 0), (Bo (β1 && β2)), (.tuple #[(.agg #[(Fl r26), (Fl r28), (Fl r30)]), (.agg #[(Fl r32), (Fl r34), (Fl r36)]), (.agg #[(Fl r38), (Fl r40), (Fl r42)])]), (.tuple #[(.agg #[(Fl r26), (Fl r28), (Fl r30)]), (.agg #[(Fl r32), (Fl r34), (Fl r36)]), (.agg #[(Fl r38), (Fl r40), (Fl r42)])]), (.agg #[(Fl r26), (Fl r28), (Fl r30)]), (.agg #[(Fl r32), (Fl r34), (Fl r36)]), (.agg #[(Fl r38), (Fl r40), (Fl r42)]), v85, v86, v87, v88, v89, v90, v91, v92, v93, v94, v95, v96, (Bo (β1 && β2)), v104, v105, v106, v107, v108, v109, Ud, Ud, Ud, Ud, Ud, Ud, Ud, Ud, Ud, Ud, Ud, Ud, Ud, Ud, Ud]) rfl (fun _ => rfl) (fun u hu hF => ?_) (fun v109 => ?_)
  · have h26_ : v105 = (Bo (β1 && β2)) := hF.1
    have h29_ : (β1 && β2) = true → v108 = (Bo (finV A_c.frm)) := hF.2.1
    clear hF
    refine doesG_un rfl ?_
    skip
    obtain rfl := h26_
    refine (does_pick (b := (β1 && β2)) (ev rfl) (ev rfl) (ev rfl)).mono ?_; rintro _ _ ⟨rfl, rfl⟩; refine ⟨?_, Ext.refl _⟩; rw [hβ3]; skip
    cases hbb : (β1 && β2) <;> simp [hbb] at h29_ ⊢
    all_goals (first | rfl | (subst h29_; rfl) | simp_all)
  refine RW_d (fun v110 => [(.agg #[(Fl r1), (Fl r3), (Fl r5), (Fl r7), (Fl r9), (Fl r11), (Fl r13), (Iv A_c.width), (Iv A_c.height)]), (Pt b16 0), (Bo false), (Pt b45 0), (Pt b53 0), (Pt b62 0), (Bo (β1 && β2)), (.tuple #[(.agg #[(Fl r26), (Fl r28), (Fl r30)]), (.agg #[(Fl r32), (Fl r34), (Fl r36)]), (.agg #[(Fl r38), (Fl r40), (Fl r42)])]), (.tuple #[(.agg #[(Fl r26), (Fl r28), (Fl r30)]), (.agg #[(Fl r32), (Fl r34), (Fl r36)]), (.agg #[(Fl r38), (Fl r40), (Fl r42)])]), (.agg #[(Fl r26), (Fl r28), (Fl r30)]), (.agg #[(Fl r32), (Fl r34), (Fl r36)]), (.agg #[(Fl r38), (Fl r40), (Fl r42)]), v85, v86, v87, v88, v89, v90, v91, v92, v93, v94, v95, v96, (Bo (β1 && β2)), v104, v105, v106, v107, v108, v109, v110, Ud, Ud, Ud, Ud, Ud, Ud, Ud, Ud, Ud, Ud, Ud, Ud, Ud, Ud]) rfl (fun _ => rfl) (fun u hu hF => ?_) (fun v110 => ?_)
  · have h30_ : v109 = (Bo β3) := hF.1
    clear hF
    refine doesG_un rfl ?_
    obtain rfl := h30_
    refine (does_move (u := (Bo β3)) (ev rfl)).mono ?_; rintro _ _ ⟨rfl, rfl⟩
    exact ⟨rfl, Ext.refl _⟩
  refine RW_d (fun v111 => [(.agg #[(Fl r1), (Fl r3), (Fl r5), (Fl r7), (Fl r9), (Fl r11), (Fl r13), (Iv A_c.width), (Iv A_c.height)]), (Pt b16 0), (Bo false), (Pt b45 0), (Pt b53 0), (Pt b62 0), (Bo (β1 && β2)), (.tuple #[(.agg #[(Fl r26), (Fl r28), (Fl r30)]), (.agg #[(Fl r32), (Fl r34), (Fl r36)]), (.agg #[(Fl r38), (Fl r40), (Fl r42)])]), (.tuple #[(.agg #[(Fl r26), (Fl r28), (Fl r30)]), (.agg #[(Fl r32), (Fl r34), (Fl r36)]), (.agg #[(Fl r38), (Fl r40), (Fl r42)])]), (.agg #[(Fl r26), (Fl r28), (Fl r30)]), (.agg #[(Fl r32), (Fl r34), (Fl r36)]), (.agg #[(Fl r38), (Fl r40), (Fl r42)]), v85, v86, v87, v88, v89, v90, v91, v92, v93, v94, v95, v96, (Bo (β1 && β2)), v104, v105, v106, v107, v108, v109, v110, v111, Ud, Ud, Ud, Ud, Ud, Ud, Ud, Ud, Ud, Ud, Ud, Ud, Ud]) rfl (fun _ => rfl) (fun u hu hF => ?_) (fun v111 => ?_)
  · have h31_ : v110 = (Bo β3) := hF.1
    clear hF
    obtain rfl := h31_
    refine doesG_g (b := β3) rfl (yld rfl rfl) (fun hg1 => ?_) (fun hc => ⟨fun hg1 => absurd hg1 hc, Ext.refl _⟩)
    refine (does_fieldAddr (ev rfl) fa48_1).mono ?_; rintro _ _ ⟨rfl, rfl⟩
    exact ⟨fun _ => rfl, Ext.refl _⟩
  refine RW_d (fun v112 => [(.agg #[(Fl r1), (Fl r3), (Fl r5), (Fl r7), (Fl r9), (Fl r11), (Fl r13), (Iv A_c.width), (Iv A_c.height)]), (Pt b16 0), (Bo false), (Pt b45 0), (Pt b53 0), (Pt b62 0), (Bo (β1 && β2)), (.tuple #[(.agg #[(Fl r26), (Fl r28), (Fl r30)]), (.agg #[(Fl r32), (Fl r34), (Fl r36)]), (.agg #[(Fl r38), (Fl r40), (Fl r42)])]), (.tuple #[(.agg #[(Fl r26), (Fl r28), (Fl r30)]), (.agg #[(Fl r32), (Fl r34), (Fl r36)]), (.agg #[(Fl r38), (Fl r40), (Fl r42)])]), (.agg #[(Fl r26), (Fl r28), (Fl r30)]), (.agg #[(Fl r32), (Fl r34), (Fl r36)]), (.agg #[(Fl r38), (Fl r40), (Fl r42)]), v85, v86, v87, v88, v89, v90, v91, v92, v93, v94, v95, v96, (Bo (β1 && β2)), v104, v105, v106, v107, v108, v109, v110, v111, v112, Ud, Ud, Ud, Ud, Ud, Ud, Ud, Ud, Ud, Ud, Ud, Ud]) rfl (fun _ => rfl) (fun u hu hF => ?_) (fun v112 => ?_)
  · have h32_ : β3 = true → v111 = (Pt b16 3) := hF.1
    have h31_ : v110 = (Bo β3) := hF.2.1
    clear hF
    obtain rfl := h31_
    refine doesG_g (b := β3) rfl (yld rfl rfl) (fun hg1 => ?_) (fun hc => ⟨fun hg1 => absurd hg1 hc, Ext.refl _⟩)
    obtain rfl := h32_ hg1
    refine (does_loadAgg (cs := [(Fl r7), (Fl r9), (Fl r11)]) (ev rfl) Try.isAgg26 Try.sizeOf26 (Cells.sub (Blk.cells (((((((((hB18.ext E24).ext E48).ext E56).ext E65).wr W72 (Nat.ne_of_lt n50)).wr W76 (Nat.ne_of_lt n58)).wr W80 (Nat.ne_of_lt n67)).ext E99).ext hu)) 3 3) rfl).mono ?_; rintro _ _ ⟨rfl, rfl⟩
    exact ⟨fun _ => rfl, Ext.refl _⟩
  refine RW_d (fun v113 => [(.agg #[(Fl r1), (Fl r3), (Fl r5), (Fl r7), (Fl r9), (Fl r11), (Fl r13), (Iv A_c.width), (Iv A_c.height)]), (Pt b16 0), (Bo false), (Pt b45 0), (Pt b53 0), (Pt b62 0), (Bo (β1 && β2)), (.tuple #[(.agg #[(Fl r26), (Fl r28), (Fl r30)]), (.agg #[(Fl r32), (Fl r34), (Fl r36)]), (.agg #[(Fl r38), (Fl r40), (Fl r42)])]), (.tuple #[(.agg #[(Fl r26), (Fl r28), (Fl r30)]), (.agg #[(Fl r32), (Fl r34), (Fl r36)]), (.agg #[(Fl r38), (Fl r40), (Fl r42)])]), (.agg #[(Fl r26), (Fl r28), (Fl r30)]), (.agg #[(Fl r32), (Fl r34), (Fl r36)]), (.agg #[(Fl r38), (Fl r40), (Fl r42)]), v85, v86, v87, v88, v89, v90, v91, v92, v93, v94, v95, v96, (Bo (β1 && β2)), v104, v105, v106, v107, v108, v109, v110, v111, v112, v113, Ud, Ud, Ud, Ud, Ud, Ud, Ud, Ud, Ud, Ud, Ud]) rfl (fun _ => rfl) (fun u hu hF => ?_) (fun v113 => ?_)
  · have h33_ : β3 = true → v112 = (.agg #[(Fl r7), (Fl r9), (Fl r11)]) := hF.1
    have h31_ : v110 = (Bo β3) := hF.2.1
    clear hF
    obtain rfl := h31_
    refine doesG_g (b := β3) rfl (yld rfl rfl) (fun hg1 => ?_) (fun hc => ⟨fun hg1 => absurd hg1 hc, Ext.refl _⟩)
    obtain rfl := h33_ hg1
    refine (does_call (args := #[(.agg #[(Fl r7), (Fl r9), (Fl r11)])]) cal57 (evs rfl) (c_impl_finiteVector [(Fl r7), (Fl r9), (Fl r11)] A_c.to _ ⟨r7, r9, r11, rfl, h8, h10, h12⟩)).mono ?_; rintro v u' ⟨hx, hv⟩
    exact ⟨fun _ => hv, hx⟩
  refine RW_d (fun v114 => [(.agg #[(Fl r1), (Fl r3), (Fl r5), (Fl r7), (Fl r9), (Fl r11), (Fl r13), (Iv A_c.width), (Iv A_c.height)]), (Pt b16 0), (Bo false), (Pt b45 0), (Pt b53 0), (Pt b62 0), (Bo (β1 && β2)), (.tuple #[(.agg #[(Fl r26), (Fl r28), (Fl r30)]), (.agg #[(Fl r32), (Fl r34), (Fl r36)]), (.agg #[(Fl r38), (Fl r40), (Fl r42)])]), (.tuple #[(.agg #[(Fl r26), (Fl r28), (Fl r30)]), (.agg #[(Fl r32), (Fl r34), (Fl r36)]), (.agg #[(Fl r38), (Fl r40), (Fl r42)])]), (.agg #[(Fl r26), (Fl r28), (Fl r30)]), (.agg #[(Fl r32), (Fl r34), (Fl r36)]), (.agg #[(Fl r38), (Fl r40), (Fl r42)]), v85, v86, v87, v88, v89, v90, v91, v92, v93, v94, v95, v96, (Bo (β1 && β2)), v104, v105, v106, v107, v108, v109, v110, v111, v112, v113, v114, Ud, Ud, Ud, Ud, Ud, Ud, Ud, Ud, Ud, Ud]) rfl (fun _ => rfl) (fun u hu hF => ?_) (fun v114 => ?_)
  · have h31_ : v110 = (Bo β3) := hF.1
    have h34_ : β3 = true → v113 = (Bo (finV A_c.to)) := hF.2.1
    clear hF
    refine doesG_un rfl ?_
    skip
    obtain rfl := h31_
    refine (does_pick (b := β3) (ev rfl) (ev rfl) (ev rfl)).mono ?_; rintro _ _ ⟨rfl, rfl⟩; refine ⟨?_, Ext.refl _⟩; skip
    cases hbb : β3 <;> simp [hbb] at h34_ ⊢
    all_goals (first | rfl | (subst h34_; rfl) | simp_all)
  refine RW_d (fun v115 => [(.agg #[(Fl r1), (Fl r3), (Fl r5), (Fl r7), (Fl r9), (Fl r11), (Fl r13), (Iv A_c.width), (Iv A_c.height)]), (Pt b16 0), (Bo false), (Pt b45 0), (Pt b53 0), (Pt b62 0), (Bo (β1 && β2)), (.tuple #[(.agg #[(Fl r26), (Fl r28), (Fl r30)]), (.agg #[(Fl r32), (Fl r34), (Fl r36)]), (.agg #[(Fl r38), (Fl r40), (Fl r42)])]), (.tuple #[(.agg #[(Fl r26), (Fl r28), (Fl r30)]), (.agg #[(Fl r32), (Fl r34), (Fl r36)]), (.agg #[(Fl r38), (Fl r40), (Fl r42)])]), (.agg #[(Fl r26), (Fl r28), (Fl r30)]), (.agg #[(Fl r32), (Fl r34), (Fl r36)]), (.agg #[(Fl r38), (Fl r40), (Fl r42)]), v85, v86, v87, v88, v89, v90, v91, v92, v93, v94, v95, v96, (Bo (β1 && β2)), v104, v105, v106, v107, v108, v109, v110, v111, v112, v113, v114, v115, Ud, Ud, Ud, Ud, Ud, Ud, Ud, Ud, Ud]) rfl (fun _ => rfl) (fun u hu hF => ?_) (fun v115 => ?_)
  · have h35_ : v114 = (Bo (β3 && (finV A_c.to))) := hF.1
    clear hF
    refine doesG_un rfl ?_
    obtain rfl := h35_
    refine (does_move (u := (Bo (β3 && (finV A_c.to)))) (ev rfl)).mono ?_; rintro _ _ ⟨rfl, rfl⟩
    exact ⟨rfl, Ext.refl _⟩
  refine RW_d (fun v116 => [(.agg #[(Fl r1), (Fl r3), (Fl r5), (Fl r7), (Fl r9), (Fl r11), (Fl r13), (Iv A_c.width), (Iv A_c.height)]), (Pt b16 0), (Bo false), (Pt b45 0), (Pt b53 0), (Pt b62 0), (Bo (β1 && β2)), (.tuple #[(.agg #[(Fl r26), (Fl r28), (Fl r30)]), (.agg #[(Fl r32), (Fl r34), (Fl r36)]), (.agg #[(Fl r38), (Fl r40), (Fl r42)])]), (.tuple #[(.agg #[(Fl r26), (Fl r28), (Fl r30)]), (.agg #[(Fl r32), (Fl r34), (Fl r36)]), (.agg #[(Fl r38), (Fl r40), (Fl r42)])]), (.agg #[(Fl r26), (Fl r28), (Fl r30)]), (.agg #[(Fl r32), (Fl r34), (Fl r36)]), (.agg #[(Fl r38), (Fl r40), (Fl r42)]), v85, v86, v87, v88, v89, v90, v91, v92, v93, v94, v95, v96, (Bo (β1 && β2)), v104, v105, v106, v107, v108, v109, v110, v111, v112, v113, v114, v115, v116, Ud, Ud, Ud, Ud, Ud, Ud, Ud, Ud]) rfl (fun _ => rfl) (fun u hu hF => ?_) (fun v116 => ?_)
  · have h36_ : v115 = (Bo (β3 && (finV A_c.to))) := hF.1
    clear hF
    obtain rfl := h36_
    refine doesG_g (b := (β3 && (finV A_c.to))) rfl (yld rfl rfl) (fun hg1 => ?_) (fun hc => ⟨fun hg1 => absurd hg1 hc, Ext.refl _⟩)
    refine (does_loadAgg (cs := [(Fl r26), (Fl r28), (Fl r30)]) (ev rfl) Try.isAgg26 Try.sizeOf26 (Blk.cells ((((hB73.wr W76 (Nat.ne_of_lt n59)).wr W80 (Nat.ne_of_lt n68)).ext E99).ext hu)) rfl).mono ?_; rintro _ _ ⟨rfl, rfl⟩
    exact ⟨fun _ => rfl, Ext.refl _⟩
  refine RW_d (fun v117 => [(.agg #[(Fl r1), (Fl r3), (Fl r5), (Fl r7), (Fl r9), (Fl r11), (Fl r13), (Iv A_c.width), (Iv A_c.height)]), (Pt b16 0), (Bo false), (Pt b45 0), (Pt b53 0), (Pt b62 0), (Bo (β1 && β2)), (.tuple #[(.agg #[(Fl r26), (Fl r28), (Fl r30)]), (.agg #[(Fl r32), (Fl r34), (Fl r36)]), (.agg #[(Fl r38), (Fl r40), (Fl r42)])]), (.tuple #[(.agg #[(Fl r26), (Fl r28), (Fl r30)]), (.agg #[(Fl r32), (Fl r34), (Fl r36)]), (.agg #[(Fl r38), (Fl r40), (Fl r42)])]), (.agg #[(Fl r26), (Fl r28), (Fl r30)]), (.agg #[(Fl r32), (Fl r34), (Fl r36)]), (.agg #[(Fl r38), (Fl r40), (Fl r42)]), v85, v86, v87, v88, v89, v90, v91, v92, v93, v94, v95, v96, (Bo (β1 && β2)), v104, v105, v106, v107, v108, v109, v110, v111, v112, v113, v114, v115, v116, v117, Ud, Ud, Ud, Ud, Ud, Ud, Ud]) rfl (fun _ => rfl) (fun u hu hF => ?_) (fun v117 => ?_)
  · have h37_ : (β3 && (finV A_c.to)) = true → v116 = (.agg #[(Fl r26), (Fl r28), (Fl r30)]) := hF.1
    have h36_ : v115 = (Bo (β3 && (finV A_c.to))) := hF.2.1
    clear hF
    obtain rfl := h36_
    refine doesG_g (b := (β3 && (finV A_c.to))) rfl (yld rfl rfl) (fun hg1 => ?_) (fun hc => ⟨fun hg1 => absurd hg1 hc, Ext.refl _⟩)
    obtain rfl := h37_ hg1
    refine (does_call (args := #[(.agg #[(Fl r26), (Fl r28), (Fl r30)])]) cal67 (evs rfl) (c_impl_isZero [(Fl r26), (Fl r28), (Fl r30)] (rgtC A_c) _ ⟨r26, r28, r30, rfl, h27, h29, h31⟩)).mono ?_; rintro v u' ⟨hx, hv⟩
    exact ⟨fun _ => hv, hx⟩
  refine RW_d (fun v118 => [(.agg #[(Fl r1), (Fl r3), (Fl r5), (Fl r7), (Fl r9), (Fl r11), (Fl r13), (Iv A_c.width), (Iv A_c.height)]), (Pt b16 0), (Bo false), (Pt b45 0), (Pt b53 0), (Pt b62 0), (Bo (β1 && β2)), (.tuple #[(.agg #[(Fl r26), (Fl r28), (Fl r30)]), (.agg #[(Fl r32), (Fl r34), (Fl r36)]), (.agg #[(Fl r38), (Fl r40), (Fl r42)])]), (.tuple #[(.agg #[(Fl r26), (Fl r28), (Fl r30)]), (.agg #[(Fl r32), (Fl r34), (Fl r36)]), (.agg #[(Fl r38), (Fl r40), (Fl r42)])]), (.agg #[(Fl r26), (Fl r28), (Fl r30)]), (.agg #[(Fl r32), (Fl r34), (Fl r36)]), (.agg #[(Fl r38), (Fl r40), (Fl r42)]), v85, v86, v87, v88, v89, v90, v91, v92, v93, v94, v95, v96, (Bo (β1 && β2)), v104, v105, v106, v107, v108, v109, v110, v111, v112, v113, v114, v115, v116, v117, v118, Ud, Ud, Ud, Ud, Ud, Ud]) rfl (fun _ => rfl) (fun u hu hF => ?_) (fun v118 => ?_)
  · have h38_ : (β3 && (finV A_c.to)) = true → v117 = (Bo (zeroV (rgtC A_c))) := hF.1
    have h36_ : v115 = (Bo (β3 && (finV A_c.to))) := hF.2.1
    clear hF
    obtain rfl := h36_
    refine doesG_g (b := (β3 && (finV A_c.to))) rfl (yld rfl rfl) (fun hg1 => ?_) (fun hc => ⟨fun hg1 => absurd hg1 hc, Ext.refl _⟩)
    obtain rfl := h38_ hg1
    refine (does_not (ev rfl)).mono ?_; rintro _ _ ⟨rfl, rfl⟩
    exact ⟨fun _ => rfl, Ext.refl _⟩
  refine RW_d (fun v119 => [(.agg #[(Fl r1), (Fl r3), (Fl r5), (Fl r7), (Fl r9), (Fl r11), (Fl r13), (Iv A_c.width), (Iv A_c.height)]), (Pt b16 0), (Bo false), (Pt b45 0), (Pt b53 0), (Pt b62 0), (Bo (β1 && β2)), (.tuple #[(.agg #[(Fl r26), (Fl r28), (Fl r30)]), (.agg #[(Fl r32), (Fl r34), (Fl r36)]), (.agg #[(Fl r38), (Fl r40), (Fl r42)])]), (.tuple #[(.agg #[(Fl r26), (Fl r28), (Fl r30)]), (.agg #[(Fl r32), (Fl r34), (Fl r36)]), (.agg #[(Fl r38), (Fl r40), (Fl r42)])]), (.agg #[(Fl r26), (Fl r28), (Fl r30)]), (.agg #[(Fl r32), (Fl r34), (Fl r36)]), (.agg #[(Fl r38), (Fl r40), (Fl r42)]), v85, v86, v87, v88, v89, v90, v91, v92, v93, v94, v95, v96, (Bo (β1 && β2)), v104, v105, v106, v107, v108, v109, v110, v111, v112, v113, v114, v115, v116, v117, v118, v119, Ud, Ud, Ud, Ud, Ud]) rfl (fun _ => rfl) (fun u hu hF => ?_) (fun v119 => ?_)
  · have h36_ : v115 = (Bo (β3 && (finV A_c.to))) := hF.1
    have h39_ : (β3 && (finV A_c.to)) = true → v118 = (Bo (!(zeroV (rgtC A_c)))) := hF.2.1
    clear hF
    refine doesG_un rfl ?_
    skip
    obtain rfl := h36_
    refine (does_pick (b := (β3 && (finV A_c.to))) (ev rfl) (ev rfl) (ev rfl)).mono ?_; rintro _ _ ⟨rfl, rfl⟩; refine ⟨?_, Ext.refl _⟩; rw [hβ4]; skip
    cases hbb : (β3 && (finV A_c.to)) <;> simp [hbb] at h39_ ⊢
    all_goals (first | rfl | (subst h39_; rfl) | simp_all)
  refine RW_d (fun v120 => [(.agg #[(Fl r1), (Fl r3), (Fl r5), (Fl r7), (Fl r9), (Fl r11), (Fl r13), (Iv A_c.width), (Iv A_c.height)]), (Pt b16 0), (Bo false), (Pt b45 0), (Pt b53 0), (Pt b62 0), (Bo (β1 && β2)), (.tuple #[(.agg #[(Fl r26), (Fl r28), (Fl r30)]), (.agg #[(Fl r32), (Fl r34), (Fl r36)]), (.agg #[(Fl r38), (Fl r40), (Fl r42)])]), (.tuple #[(.agg #[(Fl r26), (Fl r28), (Fl r30)]), (.agg #[(Fl r32), (Fl r34), (Fl r36)]), (.agg #[(Fl r38), (Fl r40), (Fl r42)])]), (.agg #[(Fl r26), (Fl r28), (Fl r30)]), (.agg #[(Fl r32), (Fl r34), (Fl r36)]), (.agg #[(Fl r38), (Fl r40), (Fl r42)]), v85, v86, v87, v88, v89, v90, v91, v92, v93, v94, v95, v96, (Bo (β1 && β2)), v104, v105, v106, v107, v108, v109, v110, v111, v112, v113, v114, v115, v116, v117, v118, v119, v120, Ud, Ud, Ud, Ud]) rfl (fun _ => rfl) (fun u hu hF => ?_) (fun v120 => ?_)
  · have h40_ : v119 = (Bo β4) := hF.1
    clear hF
    refine doesG_un rfl ?_
    obtain rfl := h40_
    refine (does_move (u := (Bo β4)) (ev rfl)).mono ?_; rintro _ _ ⟨rfl, rfl⟩
    exact ⟨rfl, Ext.refl _⟩
  refine RW_d (fun v121 => [(.agg #[(Fl r1), (Fl r3), (Fl r5), (Fl r7), (Fl r9), (Fl r11), (Fl r13), (Iv A_c.width), (Iv A_c.height)]), (Pt b16 0), (Bo false), (Pt b45 0), (Pt b53 0), (Pt b62 0), (Bo (β1 && β2)), (.tuple #[(.agg #[(Fl r26), (Fl r28), (Fl r30)]), (.agg #[(Fl r32), (Fl r34), (Fl r36)]), (.agg #[(Fl r38), (Fl r40), (Fl r42)])]), (.tuple #[(.agg #[(Fl r26), (Fl r28), (Fl r30)]), (.agg #[(Fl r32), (Fl r34), (Fl r36)]), (.agg #[(Fl r38), (Fl r40), (Fl r42)])]), (.agg #[(Fl r26), (Fl r28), (Fl r30)]), (.agg #[(Fl r32), (Fl r34), (Fl r36)]), (.agg #[(Fl r38), (Fl r40), (Fl r42)]), v85, v86, v87, v88, v89, v90, v91, v92, v93, v94, v95, v96, (Bo (β1 && β2)), v104, v105, v106, v107, v108, v109, v110, v111, v112, v113, v114, v115, v116, v117, v118, v119, v120, v121, Ud, Ud, Ud]) rfl (fun _ => rfl) (fun u hu hF => ?_) (fun v121 => ?_)
  · have h41_ : v120 = (Bo β4) := hF.1
    clear hF
    obtain rfl := h41_
    refine doesG_g (b := β4) rfl (yld rfl rfl) (fun hg1 => ?_) (fun hc => ⟨fun hg1 => absurd hg1 hc, Ext.refl _⟩)
    refine (does_loadAgg (cs := [(Fl r38), (Fl r40), (Fl r42)]) (ev rfl) Try.isAgg26 Try.sizeOf26 (Blk.cells ((hB81.ext E99).ext hu)) rfl).mono ?_; rintro _ _ ⟨rfl, rfl⟩
    exact ⟨fun _ => rfl, Ext.refl _⟩
  refine RW_d (fun v122 => [(.agg #[(Fl r1), (Fl r3), (Fl r5), (Fl r7), (Fl r9), (Fl r11), (Fl r13), (Iv A_c.width), (Iv A_c.height)]), (Pt b16 0), (Bo false), (Pt b45 0), (Pt b53 0), (Pt b62 0), (Bo (β1 && β2)), (.tuple #[(.agg #[(Fl r26), (Fl r28), (Fl r30)]), (.agg #[(Fl r32), (Fl r34), (Fl r36)]), (.agg #[(Fl r38), (Fl r40), (Fl r42)])]), (.tuple #[(.agg #[(Fl r26), (Fl r28), (Fl r30)]), (.agg #[(Fl r32), (Fl r34), (Fl r36)]), (.agg #[(Fl r38), (Fl r40), (Fl r42)])]), (.agg #[(Fl r26), (Fl r28), (Fl r30)]), (.agg #[(Fl r32), (Fl r34), (Fl r36)]), (.agg #[(Fl r38), (Fl r40), (Fl r42)]), v85, v86, v87, v88, v89, v90, v91, v92, v93, v94, v95, v96, (Bo (β1 && β2)), v104, v105, v106, v107, v108, v109, v110, v111, v112, v113, v114, v115, v116, v117, v118, v119, v120, v121, v122, Ud, Ud]) rfl (fun _ => rfl) (fun u hu hF => ?_) (fun v122 => ?_)
  · have h42_ : β4 = true → v121 = (.agg #[(Fl r38), (Fl r40), (Fl r42)]) := hF.1
    have h41_ : v120 = (Bo β4) := hF.2.1
    clear hF
    obtain rfl := h41_
    refine doesG_g (b := β4) rfl (yld rfl rfl) (fun hg1 => ?_) (fun hc => ⟨fun hg1 => absurd hg1 hc, Ext.refl _⟩)
    obtain rfl := h42_ hg1
    refine (does_call (args := #[(.agg #[(Fl r38), (Fl r40), (Fl r42)])]) cal67 (evs rfl) (c_impl_isZero [(Fl r38), (Fl r40), (Fl r42)] (fwdC A_c) _ ⟨r38, r40, r42, rfl, h39, h41, h43⟩)).mono ?_; rintro v u' ⟨hx, hv⟩
    exact ⟨fun _ => hv, hx⟩
  refine RW_d (fun v123 => [(.agg #[(Fl r1), (Fl r3), (Fl r5), (Fl r7), (Fl r9), (Fl r11), (Fl r13), (Iv A_c.width), (Iv A_c.height)]), (Pt b16 0), (Bo false), (Pt b45 0), (Pt b53 0), (Pt b62 0), (Bo (β1 && β2)), (.tuple #[(.agg #[(Fl r26), (Fl r28), (Fl r30)]), (.agg #[(Fl r32), (Fl r34), (Fl r36)]), (.agg #[(Fl r38), (Fl r40), (Fl r42)])]), (.tuple #[(.agg #[(Fl r26), (Fl r28), (Fl r30)]), (.agg #[(Fl r32), (Fl r34), (Fl r36)]), (.agg #[(Fl r38), (Fl r40), (Fl r42)])]), (.agg #[(Fl r26), (Fl r28), (Fl r30)]), (.agg #[(Fl r32), (Fl r34), (Fl r36)]), (.agg #[(Fl r38), (Fl r40), (Fl r42)]), v85, v86, v87, v88, v89, v90, v91, v92, v93, v94, v95, v96, (Bo (β1 && β2)), v104, v105, v106, v107, v108, v109, v110, v111, v112, v113, v114, v115, v116, v117, v118, v119, v120, v121, v122, v123, Ud]) rfl (fun _ => rfl) (fun u hu hF => ?_) (fun v123 => ?_)
  · have h43_ : β4 = true → v122 = (Bo (zeroV (fwdC A_c))) := hF.1
    have h41_ : v120 = (Bo β4) := hF.2.1
    clear hF
    obtain rfl := h41_
    refine doesG_g (b := β4) rfl (yld rfl rfl) (fun hg1 => ?_) (fun hc => ⟨fun hg1 => absurd hg1 hc, Ext.refl _⟩)
    obtain rfl := h43_ hg1
    refine (does_not (ev rfl)).mono ?_; rintro _ _ ⟨rfl, rfl⟩
    exact ⟨fun _ => rfl, Ext.refl _⟩
  refine RW_d (fun v124 => [(.agg #[(Fl r1), (Fl r3), (Fl r5), (Fl r7), (Fl r9), (Fl r11), (Fl r13), (Iv A_c.width), (Iv A_c.height)]), (Pt b16 0), (Bo false), (Pt b45 0), (Pt b53 0), (Pt b62 0), (Bo (β1 && β2)), (.tuple #[(.agg #[(Fl r26), (Fl r28), (Fl r30)]), (.agg #[(Fl r32), (Fl r34), (Fl r36)]), (.agg #[(Fl r38), (Fl r40), (Fl r42)])]), (.tuple #[(.agg #[(Fl r26), (Fl r28), (Fl r30)]), (.agg #[(Fl r32), (Fl r34), (Fl r36)]), (.agg #[(Fl r38), (Fl r40), (Fl r42)])]), (.agg #[(Fl r26), (Fl r28), (Fl r30)]), (.agg #[(Fl r32), (Fl r34), (Fl r36)]), (.agg #[(Fl r38), (Fl r40), (Fl r42)]), v85, v86, v87, v88, v89, v90, v91, v92, v93, v94, v95, v96, (Bo (β1 && β2)), v104, v105, v106, v107, v108, v109, v110, v111, v112, v113, v114, v115, v116, v117, v118, v119, v120, v121, v122, v123, v124]) rfl (fun _ => rfl) (fun u hu hF => ?_) (fun v124 => ?_)
  · have h41_ : v120 = (Bo β4) := hF.1
    have h44_ : β4 = true → v123 = (Bo (!(zeroV (fwdC A_c)))) := hF.2.1
    clear hF
    refine doesG_un rfl ?_
    skip
    obtain rfl := h41_
    refine (does_pick (b := β4) (ev rfl) (ev rfl) (ev rfl)).mono ?_; rintro _ _ ⟨rfl, rfl⟩; refine ⟨?_, Ext.refl _⟩; rw [hβ5]; skip
    cases hbb : β4 <;> simp [hbb] at h44_ ⊢
    all_goals (first | rfl | (subst h44_; rfl) | simp_all)
  refine RW_fin ?_; intro w125 E126 hP127
  obtain ⟨⟨⟨⟨⟨⟨⟨⟨⟨⟨⟨⟨⟨⟨⟨⟨⟨⟨⟨⟨⟨-, -⟩, -⟩, -⟩, -⟩, -⟩, -⟩, -⟩, -⟩, -⟩, -⟩, -⟩, -⟩, -⟩, -⟩, -⟩, -⟩, -⟩, -⟩, -⟩, -⟩, q128⟩ := hP127
  have X129 := Ext.gr X102 E126
  have q128 : v124 = (Bo β5) := q128
  obtain rfl := q128
  show wpList _ _ _ _ (fr [(.agg #[(Fl r1), (Fl r3), (Fl r5), (Fl r7), (Fl r9), (Fl r11), (Fl r13), (Iv A_c.width), (Iv A_c.height)]), (Pt b16 0), (Bo false), (Pt b45 0), (Pt b53 0), (Pt b62 0), (Bo (β1 && β2)), (.tuple #[(.agg #[(Fl r26), (Fl r28), (Fl r30)]), (.agg #[(Fl r32), (Fl r34), (Fl r36)]), (.agg #[(Fl r38), (Fl r40), (Fl r42)])]), (.tuple #[(.agg #[(Fl r26), (Fl r28), (Fl r30)]), (.agg #[(Fl r32), (Fl r34), (Fl r36)]), (.agg #[(Fl r38), (Fl r40), (Fl r42)])]), (.agg #[(Fl r26), (Fl r28), (Fl r30)]), (.agg #[(Fl r32), (Fl r34), (Fl r36)]), (.agg #[(Fl r38), (Fl r40), (Fl r42)]), v85, v86, v87, v88, v89, v90, v91, v92, v93, v94, v95, v96, (Bo (β1 && β2)), v104, v105, v106, v107, v108, v109, v110, v111, v112, v113, v114, v115, v116, v117, v118, v119, v120, v121, v122, v123, (Bo β5)]) _
  refine q_is (l' := [(.agg #[(Fl r1), (Fl r3), (Fl r5), (Fl r7), (Fl r9), (Fl r11), (Fl r13), (Iv A_c.width), (Iv A_c.height)]), (Pt b16 0), (Bo β5), (Pt b45 0), (Pt b53 0), (Pt b62 0), (Bo (β1 && β2)), (.tuple #[(.agg #[(Fl r26), (Fl r28), (Fl r30)]), (.agg #[(Fl r32), (Fl r34), (Fl r36)]), (.agg #[(Fl r38), (Fl r40), (Fl r42)])]), (.tuple #[(.agg #[(Fl r26), (Fl r28), (Fl r30)]), (.agg #[(Fl r32), (Fl r34), (Fl r36)]), (.agg #[(Fl r38), (Fl r40), (Fl r42)])]), (.agg #[(Fl r26), (Fl r28), (Fl r30)]), (.agg #[(Fl r32), (Fl r34), (Fl r36)]), (.agg #[(Fl r38), (Fl r40), (Fl r42)]), v85, v86, v87, v88, v89, v90, v91, v92, v93, v94, v95, v96, (Bo (β1 && β2)), v104, v105, v106, v107, v108, v109, v110, v111, v112, v113, v114, v115, v116, v117, v118, v119, v120, v121, v122, v123, (Bo β5)]) rfl rfl (does_assign (u := (Bo β5)) (ev rfl)) rfl ?_
  refine wpList_nil (hK103 _ _ ?_)
  refine wp_ret ?_
  refine ret_val (v := (Bo β5)) (res_T rfl (slot rfl)) X129 ?_
  have x130 : (isCam A_c) = β5 := by unfold isCam; rw [some_fwd, some_rgt]; simp only [h2, h4, h6, h8, h10, h12, h14, h27, h29, h31, h33, h35, h37, h39, h41, h43, hβ1, hβ2, hβ3, hβ4, hβ5]; first | rfl | ac_rfl
  exact (by first | rfl | rw [x130])

/- (*impl.Camera).has -/
theorem c_impl_Camera_has (c_b : Nat) (c_o : Nat) (c : List Value) (A_c : CamT) (x : Int) (y : Int) (w : World) (hc_c : Cells w c_b c_o c) (hv_c : RCamT w A_c c) : Gives Try.prog 72 #[(Pt c_b c_o), (Iv x), (Iv y)] w (fun v w' => v = (Bo (camPx A_c x y))) := by
  obtain ⟨r1, r3, r5, r7, r9, r11, r13, rfl, h2, h4, h6, h8, h10, h12, h14⟩ := hv_c
  refine enter [(Pt c_b c_o), (Iv x), (Iv y), Ud, Ud, Ud, Ud, Ud, Ud, Ud, Ud, Ud, Ud, Ud, Ud, Ud, Ud, Ud, Ud, Ud, Ud, Ud, Ud, Ud, Ud, Ud, Ud, Ud, Ud] Try.func72 rfl Try.ntmps72 rfl ?_
  refine wp_seq_k fun K15 hK15 => ?_
  refine wp_region_lit ?_
  refine q_is (l' := [(Pt c_b c_o), (Iv x), (Iv y), Ud, Ud, Ud, (Bo false), Ud, Ud, Ud, Ud, Ud, Ud, Ud, Ud, Ud, Ud, Ud, Ud, Ud, Ud, Ud, Ud, Ud, Ud, Ud, Ud, Ud, Ud]) rfl rfl (does_assign (u := (Bo false)) (ev rfl)) rfl ?_
  refine wpList_nil (hK15 _ _ ?_)
  refine wp_seq_k fun K16 hK16 => ?_
  obtain ⟨β1, hβ1⟩ : ∃ b : Bool, b = (inI x 0 (IntKind.i64.wrap (A_c.width - 1))) := ⟨_, rfl⟩
  obtain ⟨β2, hβ2⟩ : ∃ b : Bool, b = (inI y 0 (IntKind.i64.wrap (A_c.height - 1))) := ⟨_, rfl⟩
  obtain ⟨β3, hβ3⟩ : ∃ b : Bool, b = (((isCam A_c) && β1) && β2) := ⟨_, rfl⟩
  refine region_text (
    [Fact.pure [] (fun v => v = (Pt c_b c_o)),
    Fact.pure [7] (fun v => v = (Pt c_b c_o)),
    Fact.pure [8] (fun v => v = (.agg #[(Fl r1), (Fl r3), (Fl r5), (Fl r7), (Fl r9), (Fl r11), (Fl r13), (Iv A_c.width), (Iv A_c.height)])),
    Fact.pure [9] (fun v => v = (Bo (isCam A_c))),
    Fact.pure [10] (fun v => v = (Bo (isCam A_c))),
    Fact.pure [11] (fun v => (isCam A_c) = true → v = (Iv x)),
    Fact.pure [11] (fun v => (isCam A_c) = true → v = (Pt c_b c_o)),
    Fact.pure [13, 11] (fun v => (isCam A_c) = true → v = (Pt c_b c_o)),
    Fact.pure [14, 11] (fun v => (isCam A_c) = true → v = (Pt c_b (c_o + 7))),
    Fact.pure [15, 11] (fun v => (isCam A_c) = true → v = (Iv A_c.width)),
    Fact.pure [16, 11] (fun v => (isCam A_c) = true → v = (Iv (IntKind.i64.wrap (A_c.width - 1)))),
    Fact.pure [12, 17, 11] (fun v => (isCam A_c) = true → v = (Bo β1)),
    Fact.pure [11, 18] (fun v => v = (Bo ((isCam A_c) && β1))),
    Fact.pure [19] (fun v => v = (Bo ((isCam A_c) && β1))),
    Fact.pure [20] (fun v => ((isCam A_c) && β1) = true → v = (Iv y)),
    Fact.pure [20] (fun v => ((isCam A_c) && β1) = true → v = (Pt c_b c_o)),
    Fact.pure [22, 20] (fun v => ((isCam A_c) && β1) = true → v = (Pt c_b c_o)),
    Fact.pure [23, 20] (fun v => ((isCam A_c) && β1) = true → v = (Pt c_b (c_o + 8))),
    Fact.pure [24, 20] (fun v => ((isCam A_c) && β1) = true → v = (Iv A_c.height)),
    Fact.pure [25, 20] (fun v => ((isCam A_c) && β1) = true → v = (Iv (IntKind.i64.wrap (A_c.height - 1)))),
    Fact.pure [21, 26, 20] (fun v => ((isCam A_c) && β1) = true → v = (Bo β2)),
    Fact.pure [20, 27] (fun v => v = (Bo β3))]) (by simp [Fact.pure, Fact.mem]) ?_
  refine RW_d (fun v17 => [(Pt c_b c_o), (Iv x), (Iv y), Ud, Ud, Ud, (Bo false), v17, Ud, Ud, Ud, Ud, Ud, Ud, Ud, Ud, Ud, Ud, Ud, Ud, Ud, Ud, Ud, Ud, Ud, Ud, Ud, Ud, Ud]) rfl (fun _ => rfl) (fun u hu hF => ?_) (fun v17 => ?_)
  · clear hF
    refine doesG_un rfl ?_
    refine (does_move (u := (Pt c_b c_o)) (ev rfl)).mono ?_; rintro _ _ ⟨rfl, rfl⟩
    exact ⟨rfl, Ext.refl _⟩
  refine RW_d (fun v18 => [(Pt c_b c_o), (Iv x), (Iv y), Ud, Ud, Ud, (Bo false), v17, v18, Ud, Ud, Ud, Ud, Ud, Ud, Ud, Ud, Ud, Ud, Ud, Ud, Ud, Ud, Ud, Ud, Ud, Ud, Ud, Ud]) rfl (fun _ => rfl) (fun u hu hF => ?_) (fun v18 => ?_)
  · have h7_ : v17 = (Pt c_b c_o) := hF.1
    clear hF
    refine doesG_un rfl ?_
    obtain rfl := h7_
    refine (does_nilCheck (ev rfl)).mono ?_; rintro _ _ ⟨rfl, rfl⟩
    exact ⟨rfl, Ext.refl _⟩
  refine RW_d (fun v19 => [(Pt c_b c_o), (Iv x), (Iv y), Ud, Ud, Ud, (Bo false), v17, v18, v19, Ud, Ud, Ud, Ud, Ud, Ud, Ud, Ud, Ud, Ud, Ud, Ud, Ud, Ud, Ud, Ud, Ud, Ud, Ud]) rfl (fun _ => rfl) (fun u hu hF => ?_) (fun v19 => ?_)
  · have h8_ : v18 = (Pt c_b c_o) := hF.1
    clear hF
    refine doesG_un rfl ?_
    obtain rfl := h8_
    refine (does_loadAgg (cs := [(Fl r1), (Fl r3), (Fl r5), (Fl r7), (Fl r9), (Fl r11), (Fl r13), (Iv A_c.width), (Iv A_c.height)]) (ev rfl) Try.isAgg48 Try.sizeOf48 (hc_c.ext hu) rfl).mono ?_; rintro _ _ ⟨rfl, rfl⟩
    exact ⟨rfl, Ext.refl _⟩
  refine RW_d (fun v20 => [(Pt c_b c_o), (Iv x), (Iv y), Ud, Ud, Ud, (Bo false), v17, v18, v19, v20, Ud, Ud, Ud, Ud, Ud, Ud, Ud, Ud, Ud, Ud, Ud, Ud, Ud, Ud, Ud, Ud, Ud, Ud]) rfl (fun _ => rfl) (fun u hu hF => ?_) (fun v20 => ?_)
  · have h9_ : v19 = (.agg #[(Fl r1), (Fl r3), (Fl r5), (Fl r7), (Fl r9), (Fl r11), (Fl r13), (Iv A_c.width), (Iv A_c.height)]) := hF.1
    clear hF
    refine doesG_un rfl ?_
    obtain rfl := h9_
    refine (does_call (args := #[(.agg #[(Fl r1), (Fl r3), (Fl r5), (Fl r7), (Fl r9), (Fl r11), (Fl r13), (Iv A_c.width), (Iv A_c.height)])]) cal25 (evs rfl) (c_impl_ValidCamera [(Fl r1), (Fl r3), (Fl r5), (Fl r7), (Fl r9), (Fl r11), (Fl r13), (Iv A_c.width), (Iv A_c.height)] A_c _ ⟨r1, r3, r5, r7, r9, r11, r13, rfl, h2, h4, h6, h8, h10, h12, h14⟩)).mono ?_; rintro v u' ⟨hx, hv⟩
    exact ⟨hv, hx⟩
  refine RW_d (fun v21 => [(Pt c_b c_o), (Iv x), (Iv y), Ud, Ud, Ud, (Bo false), v17, v18, v19, v20, v21, Ud, Ud, Ud, Ud, Ud, Ud, Ud, Ud, Ud, Ud, Ud, Ud, Ud, Ud, Ud, Ud, Ud]) rfl (fun _ => rfl) (fun u hu hF => ?_) (fun v21 => ?_)
  · have h10_ : v20 = (Bo (isCam A_c)) := hF.1
    clear hF
    refine doesG_un rfl ?_
    obtain rfl := h10_
    refine (does_move (u := (Bo (isCam A_c))) (ev rfl)).mono ?_; rintro _ _ ⟨rfl, rfl⟩
    exact ⟨rfl, Ext.refl _⟩
  refine RW_d (fun v22 => [(Pt c_b c_o), (Iv x), (Iv y), Ud, Ud, Ud, (Bo false), v17, v18, v19, v20, v21, v22, Ud, Ud, Ud, Ud, Ud, Ud, Ud, Ud, Ud, Ud, Ud, Ud, Ud, Ud, Ud, Ud]) rfl (fun _ => rfl) (fun u hu hF => ?_) (fun v22 => ?_)
  · have h11_ : v21 = (Bo (isCam A_c)) := hF.1
    clear hF
    obtain rfl := h11_
    refine doesG_g (b := (isCam A_c)) rfl (yld rfl rfl) (fun hg1 => ?_) (fun hc => ⟨fun hg1 => absurd hg1 hc, Ext.refl _⟩)
    refine (does_move (u := (Iv x)) (ev rfl)).mono ?_; rintro _ _ ⟨rfl, rfl⟩
    exact ⟨fun _ => rfl, Ext.refl _⟩
  refine RW_d (fun v23 => [(Pt c_b c_o), (Iv x), (Iv y), Ud, Ud, Ud, (Bo false), v17, v18, v19, v20, v21, v22, v23, Ud, Ud, Ud, Ud, Ud, Ud, Ud, Ud, Ud, Ud, Ud, Ud, Ud, Ud, Ud]) rfl (fun _ => rfl) (fun u hu hF => ?_) (fun v23 => ?_)
  · have h11_ : v21 = (Bo (isCam A_c)) := hF.1
    clear hF
    obtain rfl := h11_
    refine doesG_g (b := (isCam A_c)) rfl (yld rfl rfl) (fun hg1 => ?_) (fun hc => ⟨fun hg1 => absurd hg1 hc, Ext.refl _⟩)
    refine (does_move (u := (Pt c_b c_o)) (ev rfl)).mono ?_; rintro _ _ ⟨rfl, rfl⟩
    exact ⟨fun _ => rfl, Ext.refl _⟩
  refine RW_d (fun v24 => [(Pt c_b c_o), (Iv x), (Iv y), Ud, Ud, Ud, (Bo false), v17, v18, v19, v20, v21, v22, v23, v24, Ud, Ud, Ud, Ud, Ud, Ud, Ud, Ud, Ud, Ud, Ud, Ud, Ud, Ud]) rfl (fun _ => rfl) (fun u hu hF => ?_) (fun v24 => ?_)
  · have h13_ : (isCam A_c) = true → v23 = (Pt c_b c_o) := hF.1
    have h11_ : v21 = (Bo (isCam A_c)) := hF.2.1
    clear hF
    obtain rfl := h11_
    refine doesG_g (b := (isCam A_c)) rfl (yld rfl rfl) (fun hg1 => ?_) (fun hc => ⟨fun hg1 => absurd hg1 hc, Ext.refl _⟩)
    obtain rfl := h13_ hg1
    refine (does_nilCheck (ev rfl)).mono ?_; rintro _ _ ⟨rfl, rfl⟩
    exact ⟨fun _ => rfl, Ext.refl _⟩
  refine RW_d (fun v25 => [(Pt c_b c_o), (Iv x), (Iv y), Ud, Ud, Ud, (Bo false), v17, v18, v19, v20, v21, v22, v23, v24, v25, Ud, Ud, Ud, Ud, Ud, Ud, Ud, Ud, Ud, Ud, Ud, Ud, Ud]) rfl (fun _ => rfl) (fun u hu hF => ?_) (fun v25 => ?_)
  · have h14_ : (isCam A_c) = true → v24 = (Pt c_b c_o) := hF.1
    have h11_ : v21 = (Bo (isCam A_c)) := hF.2.1
    clear hF
    obtain rfl := h11_
    refine doesG_g (b := (isCam A_c)) rfl (yld rfl rfl) (fun hg1 => ?_) (fun hc => ⟨fun hg1 => absurd hg1 hc, Ext.refl _⟩)
    obtain rfl := h14_ hg1
    refine (does_fieldAddr (ev rfl) fa48_3).mono ?_; rintro _ _ ⟨rfl, rfl⟩
    exact ⟨fun _ => rfl, Ext.refl _⟩
  refine RW_d (fun v26 => [(Pt c_b c_o), (Iv x), (Iv y), Ud, Ud, Ud, (Bo false), v17, v18, v19, v20, v21, v22, v23, v24, v25, v26, Ud, Ud, Ud, Ud, Ud, Ud, Ud, Ud, Ud, Ud, Ud, Ud]) rfl (fun _ => rfl) (fun u hu hF => ?_) (fun v26 => ?_)
  · have h15_ : (isCam A_c) = true → v25 = (Pt c_b (c_o + 7)) := hF.1
    have h11_ : v21 = (Bo (isCam A_c)) := hF.2.1
    clear hF
    obtain rfl := h11_
    refine doesG_g (b := (isCam A_c)) rfl (yld rfl rfl) (fun hg1 => ?_) (fun hc => ⟨fun hg1 => absurd hg1 hc, Ext.refl _⟩)
    obtain rfl := h15_ hg1
    refine (does_load (u := (Iv A_c.width)) (ev rfl) Try.isAgg2 (Cells.at (hc_c.ext hu) 7 rfl)).mono ?_; rintro _ _ ⟨rfl, rfl⟩
    exact ⟨fun _ => rfl, Ext.refl _⟩
  refine RW_d (fun v27 => [(Pt c_b c_o), (Iv x), (Iv y), Ud, Ud, Ud, (Bo false), v17, v18, v19, v20, v21, v22, v23, v24, v25, v26, v27, Ud, Ud, Ud, Ud, Ud, Ud, Ud, Ud, Ud, Ud, Ud]) rfl (fun _ => rfl) (fun u hu hF => ?_) (fun v27 => ?_)
  · have h16_ : (isCam A_c) = true → v26 = (Iv A_c.width) := hF.1
    have h11_ : v21 = (Bo (isCam A_c)) := hF.2.1
    clear hF
    obtain rfl := h11_
    refine doesG_g (b := (isCam A_c)) rfl (yld rfl rfl) (fun hg1 => ?_) (fun hc => ⟨fun hg1 => absurd hg1 hc, Ext.refl _⟩)
    obtain rfl := h16_ hg1
    refine (does_iarith (p := A_c.width) (q := 1) (r := IntKind.i64.wrap (A_c.width - 1)) (ev rfl) (ev rfl) (.inr (.inl ⟨rfl, rfl⟩))).mono ?_; rintro _ _ ⟨rfl, rfl⟩
    exact ⟨fun _ => rfl, Ext.refl _⟩
  refine RW_d (fun v28 => [(Pt c_b c_o), (Iv x), (Iv y), Ud, Ud, Ud, (Bo false), v17, v18, v19, v20, v21, v22, v23, v24, v25, v26, v27, v28, Ud, Ud, Ud, Ud, Ud, Ud, Ud, Ud, Ud, Ud]) rfl (fun _ => rfl) (fun u hu hF => ?_) (fun v28 => ?_)
  · have h12_ : (isCam A_c) = true → v22 = (Iv x) := hF.1
    have h17_ : (isCam A_c) = true → v27 = (Iv (IntKind.i64.wrap (A_c.width - 1))) := hF.2.1
    have h11_ : v21 = (Bo (isCam A_c)) := hF.2.2.1
    clear hF
    obtain rfl := h11_
    refine doesG_g (b := (isCam A_c)) rfl (yld rfl rfl) (fun hg1 => ?_) (fun hc => ⟨fun hg1 => absurd hg1 hc, Ext.refl _⟩)
    obtain rfl := h12_ hg1
    obtain rfl := h17_ hg1
    refine (does_call (args := #[(Iv x), (Iv 0), (Iv (IntKind.i64.wrap (A_c.width - 1)))]) cal56 (evs rfl) (c_impl_in x 0 (IntKind.i64.wrap (A_c.width - 1)) _)).mono ?_; rintro v u' ⟨hx, hv⟩
    exact ⟨fun _ => hv.trans (by simp only [hβ1]), hx⟩
  refine RW_d (fun v29 => [(Pt c_b c_o), (Iv x), (Iv y), Ud, Ud, Ud, (Bo false), v17, v18, v19, v20, v21, v22, v23, v24, v25, v26, v27, v28, v29, Ud, Ud, Ud, Ud, Ud, Ud, Ud, Ud, Ud]) rfl (fun _ => rfl) (fun u hu hF => ?_) (fun v29 => ?_)
  · have h11_ : v21 = (Bo (isCam A_c)) := hF.1
    have h18_ : (isCam A_c) = true → v28 = (Bo β1) := hF.2.1
    clear hF
    refine doesG_un rfl ?_
    skip
    obtain rfl := h11_
    refine (does_pick (b := (isCam A_c)) (ev rfl) (ev rfl) (ev rfl)).mono ?_; rintro _ _ ⟨rfl, rfl⟩; refine ⟨?_, Ext.refl _⟩; skip
    cases hbb : (isCam A_c) <;> simp [hbb] at h18_ ⊢
    all_goals (first | rfl | (subst h18_; rfl) | simp_all)
  refine RW_d (fun v30 => [(Pt c_b c_o), (Iv x), (Iv y), Ud, Ud, Ud, (Bo false), v17, v18, v19, v20, v21, v22, v23, v24, v25, v26, v27, v28, v29, v30, Ud, Ud, Ud, Ud, Ud, Ud, Ud, Ud]) rfl (fun _ => rfl) (fun u hu hF => ?_) (fun v30 => ?_)
  · have h19_ : v29 = (Bo ((isCam A_c) && β1)) := hF.1
    clear hF
    refine doesG_un rfl ?_
    obtain rfl := h19_
    refine (does_move (u := (Bo ((isCam A_c) && β1))) (ev rfl)).mono ?_; rintro _ _ ⟨rfl, rfl⟩
    exact ⟨rfl, Ext.refl _⟩
  refine RW_d (fun v31 => [(Pt c_b c_o), (Iv x), (Iv y), Ud, Ud, Ud, (Bo false), v17, v18, v19, v20, v21, v22, v23, v24, v25, v26, v27, v28, v29, v30, v31, Ud, Ud, Ud, Ud, Ud, Ud, Ud]) rfl (fun _ => rfl) (fun u hu hF => ?_) (fun v31 => ?_)
  · have h20_ : v30 = (Bo ((isCam A_c) && β1)) := hF.1
    clear hF
    obtain rfl := h20_
    refine doesG_g (b := ((isCam A_c) && β1)) rfl (yld rfl rfl) (fun hg1 => ?_) (fun hc => ⟨fun hg1 => absurd hg1 hc, Ext.refl _⟩)
    refine (does_move (u := (Iv y)) (ev rfl)).mono ?_; rintro _ _ ⟨rfl, rfl⟩
    exact ⟨fun _ => rfl, Ext.refl _⟩
  refine RW_d (fun v32 => [(Pt c_b c_o), (Iv x), (Iv y), Ud, Ud, Ud, (Bo false), v17, v18, v19, v20, v21, v22, v23, v24, v25, v26, v27, v28, v29, v30, v31, v32, Ud, Ud, Ud, Ud, Ud, Ud]) rfl (fun _ => rfl) (fun u hu hF => ?_) (fun v32 => ?_)
  · have h20_ : v30 = (Bo ((isCam A_c) && β1)) := hF.1
    clear hF
    obtain rfl := h20_
    refine doesG_g (b := ((isCam A_c) && β1)) rfl (yld rfl rfl) (fun hg1 => ?_) (fun hc => ⟨fun hg1 => absurd hg1 hc, Ext.refl _⟩)
    refine (does_move (u := (Pt c_b c_o)) (ev rfl)).mono ?_; rintro _ _ ⟨rfl, rfl⟩
    exact ⟨fun _ => rfl, Ext.refl _⟩
  refine RW_d (fun v33 => [(Pt c_b c_o), (Iv x), (Iv y), Ud, Ud, Ud, (Bo false), v17, v18, v19, v20, v21, v22, v23, v24, v25, v26, v27, v28, v29, v30, v31, v32, v33, Ud, Ud, Ud, Ud, Ud]) rfl (fun _ => rfl) (fun u hu hF => ?_) (fun v33 => ?_)
  · have h22_ : ((isCam A_c) && β1) = true → v32 = (Pt c_b c_o) := hF.1
    have h20_ : v30 = (Bo ((isCam A_c) && β1)) := hF.2.1
    clear hF
    obtain rfl := h20_
    refine doesG_g (b := ((isCam A_c) && β1)) rfl (yld rfl rfl) (fun hg1 => ?_) (fun hc => ⟨fun hg1 => absurd hg1 hc, Ext.refl _⟩)
    obtain rfl := h22_ hg1
    refine (does_nilCheck (ev rfl)).mono ?_; rintro _ _ ⟨rfl, rfl⟩
    exact ⟨fun _ => rfl, Ext.refl _⟩
  refine RW_d (fun v34 => [(Pt c_b c_o), (Iv x), (Iv y), Ud, Ud, Ud, (Bo false), v17, v18, v19, v20, v21, v22, v23, v24, v25, v26, v27, v28, v29, v30, v31, v32, v33, v34, Ud, Ud, Ud, Ud]) rfl (fun _ => rfl) (fun u hu hF => ?_) (fun v34 => ?_)
  · have h23_ : ((isCam A_c) && β1) = true → v33 = (Pt c_b c_o) := hF.1
    have h20_ : v30 = (Bo ((isCam A_c) && β1)) := hF.2.1
    clear hF
    obtain rfl := h20_
    refine doesG_g (b := ((isCam A_c) && β1)) rfl (yld rfl rfl) (fun hg1 => ?_) (fun hc => ⟨fun hg1 => absurd hg1 hc, Ext.refl _⟩)
    obtain rfl := h23_ hg1
    refine (does_fieldAddr (ev rfl) fa48_4).mono ?_; rintro _ _ ⟨rfl, rfl⟩
    exact ⟨fun _ => rfl, Ext.refl _⟩
  refine RW_d (fun v35 => [(Pt c_b c_o), (Iv x), (Iv y), Ud, Ud, Ud, (Bo false), v17, v18, v19, v20, v21, v22, v23, v24, v25, v26, v27, v28, v29, v30, v31, v32, v33, v34, v35, Ud, Ud, Ud]) rfl (fun _ => rfl) (fun u hu hF => ?_) (fun v35 => ?_)
  · have h24_ : ((isCam A_c) && β1) = true → v34 = (Pt c_b (c_o + 8)) := hF.1
    have h20_ : v30 = (Bo ((isCam A_c) && β1)) := hF.2.1
    clear hF
    obtain rfl := h20_
    refine doesG_g (b := ((isCam A_c) && β1)) rfl (yld rfl rfl) (fun hg1 => ?_) (fun hc => ⟨fun hg1 => absurd hg1 hc, Ext.refl _⟩)
    obtain rfl := h24_ hg1
    refine (does_load (u := (Iv A_c.height)) (ev rfl) Try.isAgg2 (Cells.at (hc_c.ext hu) 8 rfl)).mono ?_; rintro _ _ ⟨rfl, rfl⟩
    exact ⟨fun _ => rfl, Ext.refl _⟩
  refine RW_d (fun v36 => [(Pt c_b c_o), (Iv x), (Iv y), Ud, Ud, Ud, (Bo false), v17, v18, v19, v20, v21, v22, v23, v24, v25, v26, v27, v28, v29, v30, v31, v32, v33, v34, v35, v36, Ud, Ud]) rfl (fun _ => rfl) (fun u hu hF => ?_) (fun v36 => ?_)
  · have h25_ : ((isCam A_c) && β1) = true → v35 = (Iv A_c.height) := hF.1
    have h20_ : v30 = (Bo ((isCam A_c) && β1)) := hF.2.1
    clear hF
    obtain rfl := h20_
    refine doesG_g (b := ((isCam A_c) && β1)) rfl (yld rfl rfl) (fun hg1 => ?_) (fun hc => ⟨fun hg1 => absurd hg1 hc, Ext.refl _⟩)
    obtain rfl := h25_ hg1
    refine (does_iarith (p := A_c.height) (q := 1) (r := IntKind.i64.wrap (A_c.height - 1)) (ev rfl) (ev rfl) (.inr (.inl ⟨rfl, rfl⟩))).mono ?_; rintro _ _ ⟨rfl, rfl⟩
    exact ⟨fun _ => rfl, Ext.refl _⟩
  refine RW_d (fun v37 => [(Pt c_b c_o), (Iv x), (Iv y), Ud, Ud, Ud, (Bo false), v17, v18, v19, v20, v21, v22, v23, v24, v25, v26, v27, v28, v29, v30, v31, v32, v33, v34, v35, v36, v37, Ud]) rfl (fun _ => rfl) (fun u hu hF => ?_) (fun v37 => ?_)
  · have h21_ : ((isCam A_c) && β1) = true → v31 = (Iv y) := hF.1
    have h26_ : ((isCam A_c) && β1) = true → v36 = (Iv (IntKind.i64.wrap (A_c.height - 1))) := hF.2.1
    have h20_ : v30 = (Bo ((isCam A_c) && β1)) := hF.2.2.1
    clear hF
    obtain rfl := h20_
    refine doesG_g (b := ((isCam A_c) && β1)) rfl (yld rfl rfl) (fun hg1 => ?_) (fun hc => ⟨fun hg1 => absurd hg1 hc, Ext.refl _⟩)
    obtain rfl := h21_ hg1
    obtain rfl := h26_ hg1
    refine (does_call (args := #[(Iv y), (Iv 0), (Iv (IntKind.i64.wrap (A_c.height - 1)))]) cal56 (evs rfl) (c_impl_in y 0 (IntKind.i64.wrap (A_c.height - 1)) _)).mono ?_; rintro v u' ⟨hx, hv⟩
    exact ⟨fun _ => hv.trans (by simp only [hβ2]), hx⟩
  refine RW_d (fun v38 => [(Pt c_b c_o), (Iv x), (Iv y), Ud, Ud, Ud, (Bo false), v17, v18, v19, v20, v21, v22, v23, v24, v25, v26, v27, v28, v29, v30, v31, v32, v33, v34, v35, v36, v37, v38]) rfl (fun _ => rfl) (fun u hu hF => ?_) (fun v38 => ?_)
  · have h20_ : v30 = (Bo ((isCam A_c) && β1)) := hF.1
    have h27_ : ((isCam A_c) && β1) = true → v37 = (Bo β2) := hF.2.1
    clear hF
    refine doesG_un rfl ?_
    skip
    obtain rfl := h20_
    refine (does_pick (b := ((isCam A_c) && β1)) (ev rfl) (ev rfl) (ev rfl)).mono ?_; rintro _ _ ⟨rfl, rfl⟩; refine ⟨?_, Ext.refl _⟩; rw [hβ3]; skip
    cases hbb : ((isCam A_c) && β1) <;> simp [hbb] at h27_ ⊢
    all_goals (first | rfl | (subst h27_; rfl) | simp_all)
  refine RW_fin ?_; intro w39 E40 hP41
  obtain ⟨⟨⟨⟨⟨⟨⟨⟨⟨⟨⟨⟨⟨⟨⟨⟨⟨⟨⟨⟨⟨⟨-, -⟩, -⟩, -⟩, -⟩, -⟩, -⟩, -⟩, -⟩, -⟩, -⟩, -⟩, -⟩, -⟩, -⟩, -⟩, -⟩, -⟩, -⟩, -⟩, -⟩, -⟩, q42⟩ := hP41
  have X43 := Ext.gr (Ext.refl w) E40
  have q42 : v38 = (Bo β3) := q42
  obtain rfl := q42
  show wpList _ _ _ _ (fr [(Pt c_b c_o), (Iv x), (Iv y), Ud, Ud, Ud, (Bo false), v17, v18, v19, v20, v21, v22, v23, v24, v25, v26, v27, v28, v29, v30, v31, v32, v33, v34, v35, v36, v37, (Bo β3)]) _
  refine q_is (l' := [(Pt c_b c_o), (Iv x), (Iv y), Ud, Ud, Ud, (Bo β3), v17, v18, v19, v20, v21, v22, v23, v24, v25, v26, v27, v28, v29, v30, v31, v32, v33, v34, v35, v36, v37, (Bo β3)]) rfl rfl (does_assign (u := (Bo β3)) (ev rfl)) rfl ?_
  refine wpList_nil (hK16 _ _ ?_)
  refine wp_ret ?_
  refine ret_val (v := (Bo β3)) (res_T rfl (slot rfl)) X43 ?_
  have x44 : (camPx A_c x y) = β3 := by first | with_reducible rfl | (simp only [camPx, hasPx, Bool.and_assoc, h2, h4, h6, h8, h10, h12, h14, hβ1, hβ2, hβ3]; done) | (simp [camPx, hasPx, Bool.and_assoc, h2, h4, h6, h8, h10, h12, h14, hβ1, hβ2, hβ3]; done) | rfl
  exact (by first | rfl | rw [x44])

/- impl.AddVectors -/
theorem c_impl_AddVectors (a : List Value) (A_a : V3) (b : List Value) (A_b : V3) (w : World) (hv_a : RV3 w A_a a) (hv_b : RV3 w A_b b) : Gives Try.prog 93 #[(.agg a.toArray), (.agg b.toArray)] w (fun v w' => ∃ cs_1 : List Value, v = (.agg cs_1.toArray) ∧ RV3 w (vadd A_a A_b) cs_1) := by
  obtain ⟨r1, r3, r5, rfl, h2, h4, h6⟩ := hv_a
  obtain ⟨r7, r9, r11, rfl, h8, h10, h12⟩ := hv_b
  refine enter [(.agg #[(Fl r1), (Fl r3), (Fl r5)]), (.agg #[(Fl r7), (Fl r9), (Fl r11)]), Ud, Ud, Ud, Ud, Ud, Ud, Ud, Ud, Ud, Ud, Ud, Ud, Ud, Ud, Ud, Ud, Ud, Ud, Ud] Try.func93 rfl Try.ntmps93 rfl ?_
  refine wp_seq_k fun K13 hK13 => ?_
  refine wp_region_lit ?_
  refine seqd rfl rfl (does_box (u := (.agg #[(Fl r1), (Fl r3), (Fl r5)])) (ev rfl)) ?_; rintro _ w18 ⟨b14, rfl, hb15, hB16, E17⟩
  have g19 : w.heap.size ≤ b14 := Nat.le_trans (Below.size (Ext.refl w)) hb15
  change Blk _ _ [(Fl r1), (Fl r3), (Fl r5)] at hB16
  have X20 := Ext.gr (Ext.refl w) E17
  show wpList _ _ _ _ (fr [(.agg #[(Fl r1), (Fl r3), (Fl r5)]), (.agg #[(Fl r7), (Fl r9), (Fl r11)]), (Pt b14 0), Ud, Ud, Ud, Ud, Ud, Ud, Ud, Ud, Ud, Ud, Ud, Ud, Ud, Ud, Ud, Ud, Ud, Ud]) _
  refine seqd rfl rfl (does_box (u := (.agg #[(Fl r7), (Fl r9), (Fl r11)])) (ev rfl)) ?_; rintro _ w25 ⟨b21, rfl, hb22, hB23, E24⟩
  have n26 : b14 < b21 := Nat.lt_of_lt_of_le (Blk.lt hB16) hb22
  have g27 : w.heap.size ≤ b21 := Nat.le_trans (Below.size X20) hb22
  change Blk _ _ [(Fl r7), (Fl r9), (Fl r11)] at hB23
  have X28 := Ext.gr X20 E24
  show wpList _ _ _ _ (fr [(.agg #[(Fl r1), (Fl r3), (Fl r5)]), (.agg #[(Fl r7), (Fl r9), (Fl r11)]), (Pt b14 0), (Pt b21 0), Ud, Ud, Ud, Ud, Ud, Ud, Ud, Ud, Ud, Ud, Ud, Ud, Ud, Ud, Ud, Ud, Ud]) _
  refine seqd rfl rfl (does_alloc z26) ?_; rintro _ w33 ⟨b29, rfl, hb30, hB31, E32⟩
  have n34 : b14 < b29 := Nat.lt_of_lt_of_le (Blk.lt (hB16.ext E24)) hb30
  have n35 : b21 < b29 := Nat.lt_of_lt_of_le (Blk.lt hB23) hb30
  have g36 : w.heap.size ≤ b29 := Nat.le_trans (Below.size X28) hb30
  change Blk _ _ [(Fl 0), (Fl 0), (Fl 0)] at hB31
  have X37 := Ext.gr X28 E32
  show wpList _ _ _ _ (fr [(.agg #[(Fl r1), (Fl r3), (Fl r5)]), (.agg #[(Fl r7), (Fl r9), (Fl r11)]), (Pt b14 0), (Pt b21 0), (Pt b29 0), Ud, Ud, Ud, Ud, Ud, Ud, Ud, Ud, Ud, Ud, Ud, Ud, Ud, Ud, Ud, Ud]) _
  refine wpList_nil (hK13 _ _ ?_)
  refine wp_seq_k fun K38 hK38 => ?_
  refine wp_region_lit ?_
  refine q_is (l' := [(.agg #[(Fl r1), (Fl r3), (Fl r5)]), (.agg #[(Fl r7), (Fl r9), (Fl r11)]), (Pt b14 0), (Pt b21 0), (Pt b29 0), (Pt b14 0), Ud, Ud, Ud, Ud, Ud, Ud, Ud, Ud, Ud, Ud, Ud, Ud, Ud, Ud, Ud]) rfl rfl (does_fieldAddr (ev rfl) fa26_0) rfl ?_
  refine q_is (l' := [(.agg #[(Fl r1), (Fl r3), (Fl r5)]), (.agg #[(Fl r7), (Fl r9), (Fl r11)]), (Pt b14 0), (Pt b21 0), (Pt b29 0), (Pt b14 0), (Fl r1), Ud, Ud, Ud, Ud, Ud, Ud, Ud, Ud, Ud, Ud, Ud, Ud, Ud, Ud]) rfl rfl (does_load (u := (Fl r1)) (ev rfl) Try.isAgg24 (Cells.at (Blk.cells ((hB16.ext E24).ext E32)) 0 rfl)) rfl ?_
  refine q_is (l' := [(.agg #[(Fl r1), (Fl r3), (Fl r5)]), (.agg #[(Fl r7), (Fl r9), (Fl r11)]), (Pt b14 0), (Pt b21 0), (Pt b29 0), (Pt b14 0), (Fl r1), (Pt b21 0), Ud, Ud, Ud, Ud, Ud, Ud, Ud, Ud, Ud, Ud, Ud, Ud, Ud]) rfl rfl (does_fieldAddr (ev rfl) fa26_0) rfl ?_
  refine q_is (l' := [(.agg #[(Fl r1), (Fl r3), (Fl r5)]), (.agg #[(Fl r7), (Fl r9), (Fl r11)]), (Pt b14 0), (Pt b21 0), (Pt b29 0), (Pt b14 0), (Fl r1), (Pt b21 0), (Fl r7), Ud, Ud, Ud, Ud, Ud, Ud, Ud, Ud, Ud, Ud, Ud, Ud]) rfl rfl (does_load (u := (Fl r7)) (ev rfl) Try.isAgg24 (Cells.at (Blk.cells (hB23.ext E32)) 0 rfl)) rfl ?_
  refine seqd rfl rfl (does_float (.inl rfl) (ev rfl) (ev rfl)) ?_; rintro _ w42 ⟨r39, rfl, h40, E41⟩
  have X43 := Ext.gr X37 E41
  show wpList _ _ _ _ (fr [(.agg #[(Fl r1), (Fl r3), (Fl r5)]), (.agg #[(Fl r7), (Fl r9), (Fl r11)]), (Pt b14 0), (Pt b21 0), (Pt b29 0), (Pt b14 0), (Fl r1), (Pt b21 0), (Fl r7), (Fl r39), Ud, Ud, Ud, Ud, Ud, Ud, Ud, Ud, Ud, Ud, Ud]) _
  refine q_is (l' := [(.agg #[(Fl r1), (Fl r3), (Fl r5)]), (.agg #[(Fl r7), (Fl r9), (Fl r11)]), (Pt b14 0), (Pt b21 0), (Pt b29 0), (Pt b14 0), (Fl r1), (Pt b21 0), (Fl r7), (Fl r39), (Pt b14 1), Ud, Ud, Ud, Ud, Ud, Ud, Ud, Ud, Ud, Ud]) rfl rfl (does_fieldAddr (ev rfl) fa26_1) rfl ?_
  refine q_is (l' := [(.agg #[(Fl r1), (Fl r3), (Fl r5)]), (.agg #[(Fl r7), (Fl r9), (Fl r11)]), (Pt b14 0), (Pt b21 0), (Pt b29 0), (Pt b14 0), (Fl r1), (Pt b21 0), (Fl r7), (Fl r39), (Pt b14 1), (Fl r3), Ud, Ud, Ud, Ud, Ud, Ud, Ud, Ud, Ud]) rfl rfl (does_load (u := (Fl r3)) (ev rfl) Try.isAgg24 (Cells.at (Blk.cells (((hB16.ext E24).ext E32).ext E41)) 1 rfl)) rfl ?_
  refine q_is (l' := [(.agg #[(Fl r1), (Fl r3), (Fl r5)]), (.agg #[(Fl r7), (Fl r9), (Fl r11)]), (Pt b14 0), (Pt b21 0), (Pt b29 0), (Pt b14 0), (Fl r1), (Pt b21 0), (Fl r7), (Fl r39), (Pt b14 1), (Fl r3), (Pt b21 1), Ud, Ud, Ud, Ud, Ud, Ud, Ud, Ud]) rfl rfl (does_fieldAddr (ev rfl) fa26_1) rfl ?_
  refine q_is (l' := [(.agg #[(Fl r1), (Fl r3), (Fl r5)]), (.agg #[(Fl r7), (Fl r9), (Fl r11)]), (Pt b14 0), (Pt b21 0), (Pt b29 0), (Pt b14 0), (Fl r1), (Pt b21 0), (Fl r7), (Fl r39), (Pt b14 1), (Fl r3), (Pt b21 1), (Fl r9), Ud, Ud, Ud, Ud, Ud, Ud, Ud]) rfl rfl (does_load (u := (Fl r9)) (ev rfl) Try.isAgg24 (Cells.at (Blk.cells ((hB23.ext E32).ext E41)) 1 rfl)) rfl ?_
  refine seqd rfl rfl (does_float (.inl rfl) (ev rfl) (ev rfl)) ?_; rintro _ w47 ⟨r44, rfl, h45, E46⟩
  have X48 := Ext.gr X43 E46
  show wpList _ _ _ _ (fr [(.agg #[(Fl r1), (Fl r3), (Fl r5)]), (.agg #[(Fl r7), (Fl r9), (Fl r11)]), (Pt b14 0), (Pt b21 0), (Pt b29 0), (Pt b14 0), (Fl r1), (Pt b21 0), (Fl r7), (Fl r39), (Pt b14 1), (Fl r3), (Pt b21 1), (Fl r9), (Fl r44), Ud, Ud, Ud, Ud, Ud, Ud]) _
  refine q_is (l' := [(.agg #[(Fl r1), (Fl r3), (Fl r5)]), (.agg #[(Fl r7), (Fl r9), (Fl r11)]), (Pt b14 0), (Pt b21 0), (Pt b29 0), (Pt b14 0), (Fl r1), (Pt b21 0), (Fl r7), (Fl r39), (Pt b14 1), (Fl r3), (Pt b21 1), (Fl r9), (Fl r44), (Pt b14 2), Ud, Ud, Ud, Ud, Ud]) rfl rfl (does_fieldAddr (ev rfl) fa26_2) rfl ?_
  refine q_is (l' := [(.agg #[(Fl r1), (Fl r3), (Fl r5)]), (.agg #[(Fl r7), (Fl r9), (Fl r11)]), (Pt b14 0), (Pt b21 0), (Pt b29 0), (Pt b14 0), (Fl r1), (Pt b21 0), (Fl r7), (Fl r39), (Pt b14 1), (Fl r3), (Pt b21 1), (Fl r9), (Fl r44), (Pt b14 2), (Fl r5), Ud, Ud, Ud, Ud]) rfl rfl (does_load (u := (Fl r5)) (ev rfl) Try.isAgg24 (Cells.at (Blk.cells ((((hB16.ext E24).ext E32).ext E41).ext E46)) 2 rfl)) rfl ?_
  refine q_is (l' := [(.agg #[(Fl r1), (Fl r3), (Fl r5)]), (.agg #[(Fl r7), (Fl r9), (Fl r11)]), (Pt b14 0), (Pt b21 0), (Pt b29 0), (Pt b14 0), (Fl r1), (Pt b21 0), (Fl r7), (Fl r39), (Pt b14 1), (Fl r3), (Pt b21 1), (Fl r9), (Fl r44), (Pt b14 2), (Fl r5), (Pt b21 2), Ud, Ud, Ud]) rfl rfl (does_fieldAddr (ev rfl) fa26_2) rfl ?_
  refine q_is (l' := [(.agg #[(Fl r1), (Fl r3), (Fl r5)]), (.agg #[(Fl r7), (Fl r9), (Fl r11)]), (Pt b14 0), (Pt b21 0), (Pt b29 0), (Pt b14 0), (Fl r1), (Pt b21 0), (Fl r7), (Fl r39), (Pt b14 1), (Fl r3), (Pt b21 1), (Fl r9), (Fl r44), (Pt b14 2), (Fl r5), (Pt b21 2), (Fl r11), Ud, Ud]) rfl rfl (does_load (u := (Fl r11)) (ev rfl) Try.isAgg24 (Cells.at (Blk.cells (((hB23.ext E32).ext E41).ext E46)) 2 rfl)) rfl ?_
  refine seqd rfl rfl (does_float (.inl rfl) (ev rfl) (ev rfl)) ?_; rintro _ w52 ⟨r49, rfl, h50, E51⟩
  have X53 := Ext.gr X48 E51
  show wpList _ _ _ _ (fr [(.agg #[(Fl r1), (Fl r3), (Fl r5)]), (.agg #[(Fl r7), (Fl r9), (Fl r11)]), (Pt b14 0), (Pt b21 0), (Pt b29 0), (Pt b14 0), (Fl r1), (Pt b21 0), (Fl r7), (Fl r39), (Pt b14 1), (Fl r3), (Pt b21 1), (Fl r9), (Fl r44), (Pt b14 2), (Fl r5), (Pt b21 2), (Fl r11), (Fl r49), Ud]) _
  refine q_is (l' := [(.agg #[(Fl r1), (Fl r3), (Fl r5)]), (.agg #[(Fl r7), (Fl r9), (Fl r11)]), (Pt b14 0), (Pt b21 0), (Pt b29 0), (Pt b14 0), (Fl r1), (Pt b21 0), (Fl r7), (Fl r39), (Pt b14 1), (Fl r3), (Pt b21 1), (Fl r9), (Fl r44), (Pt b14 2), (Fl r5), (Pt b21 2), (Fl r11), (Fl r49), (.agg #[(Fl r39), (Fl r44), (Fl r49)])]) rfl rfl (does_build (parts' := [(0, (Fl r39)), (1, (Fl r44)), (2, (Fl r49))]) (cells := #[(Fl r39), (Fl r44), (Fl r49)]) (evp rfl) (by kernel_rfl)) rfl ?_
  refine seqn rfl rfl (does_store (n := 3) (cs := [(Fl 0), (Fl 0), (Fl 0)]) (u := (.agg #[(Fl r39), (Fl r44), (Fl r49)])) (ev rfl) (ev rfl) Try.sizeOf26 rfl (((hB31.ext E41).ext E46).ext E51) (Nat.le_of_ble_eq_true rfl) rfl) ?_; rintro _ w56 ⟨rfl, W54, hB55⟩
  change Blk _ _ [(Fl r39), (Fl r44), (Fl r49)] at hB55
  have X57 := Below.wr X53 W54 g36
  refine wpList_nil (hK38 _ _ ?_)
  refine wp_ret ?_
  refine ret_val (v := (.agg #[(Fl r39), (Fl r44), (Fl r49)])) (res_C rfl (slot rfl) (run_loadAgg (cs := [(Fl r39), (Fl r44), (Fl r49)]) Try.isAgg26 Try.sizeOf26 (Blk.cells hB55) rfl)) X57 ?_
  have x58 : cf .f32 r39 = (vadd A_a A_b).x := by first | with_reducible rfl | (simp only [vadd, h2, h4, h6, h8, h10, h12, h40, h45, h50]; done) | (simp [vadd, h2, h4, h6, h8, h10, h12, h40, h45, h50]; done) | rfl
  have x59 : cf .f32 r44 = (vadd A_a A_b).y := by first | with_reducible rfl | (simp only [vadd, h2, h4, h6, h8, h10, h12, h40, h45, h50]; done) | (simp [vadd, h2, h4, h6, h8, h10, h12, h40, h45, h50]; done) | rfl
  have x60 : cf .f32 r49 = (vadd A_a A_b).z := by first | with_reducible rfl | (simp only [vadd, h2, h4, h6, h8, h10, h12, h40, h45, h50]; done) | (simp [vadd, h2, h4, h6, h8, h10, h12, h40, h45, h50]; done) | rfl
  exact ⟨[(Fl r39), (Fl r44), (Fl r49)], rfl, ⟨r39, r44, r49, rfl, x58, x59, x60⟩⟩

/- impl.share -/
theorem c_impl_share (x : Int) (y : Int) (w : World) : Gives Try.prog 106 #[(Iv x), (Iv y)] w (fun v w' => ∃ r_1 : Nat, v = (Fl r_1) ∧ cf .f32 r_1 = shareF x y) := by
  refine enter [(Iv x), (Iv y), Ud, Ud, Ud, Ud, Ud, Ud, Ud, Ud, Ud, Ud] Try.func106 rfl Try.ntmps106 rfl ?_
  refine wp_seq_k fun K1 hK1 => ?_
  refine wp_region_lit ?_
  refine q_is (l' := [(Iv x), (Iv y), Ud, Ud, (Fl 0), Ud, Ud, Ud, Ud, Ud, Ud, Ud]) rfl rfl (does_assign (u := (Fl 0)) (ev rfl)) rfl ?_
  refine wpList_nil (hK1 _ _ ?_)
  refine wp_seq_k fun K2 hK2 => ?_
  refine wp_region_lit ?_
  refine q_is (l' := [(Iv x), (Iv y), Ud, Ud, (Fl 0), (Iv x), Ud, Ud, Ud, Ud, Ud, Ud]) rfl rfl (does_move (u := (Iv x)) (ev rfl)) rfl ?_
  refine q_is (l' := [(Iv x), (Iv y), Ud, Ud, (Fl 0), (Iv x), (Fl (FloatKind.f32.nearest x)), Ud, Ud, Ud, Ud, Ud]) rfl rfl (does_conv_if (k := .f32) Try.underlying2 Try.underlying24 (ev rfl)) rfl ?_
  refine seqd rfl rfl (does_float (.inl rfl) (ev rfl) (ev rfl)) ?_; rintro _ w6 ⟨r3, rfl, h4, E5⟩
  have X7 := Ext.gr (Ext.refl w) E5
  show wpList _ _ _ _ (fr [(Iv x), (Iv y), Ud, Ud, (Fl 0), (Iv x), (Fl (FloatKind.f32.nearest x)), (Fl r3), Ud, Ud, Ud, Ud]) _
  refine q_is (l' := [(Iv x), (Iv y), Ud, Ud, (Fl 0), (Iv x), (Fl (FloatKind.f32.nearest x)), (Fl r3), (Iv y), Ud, Ud, Ud]) rfl rfl (does_move (u := (Iv y)) (ev rfl)) rfl ?_
  refine q_is (l' := [(Iv x), (Iv y), Ud, Ud, (Fl 0), (Iv x), (Fl (FloatKind.f32.nearest x)), (Fl r3), (Iv y), (Fl (FloatKind.f32.nearest y)), Ud, Ud]) rfl rfl (does_conv_if (k := .f32) Try.underlying2 Try.underlying24 (ev rfl)) rfl ?_
  refine seqd rfl rfl (does_float (.inr (.inr (.inr rfl))) (ev rfl) (ev rfl)) ?_; rintro _ w11 ⟨r8, rfl, h9, E10⟩
  have X12 := Ext.gr X7 E10
  show wpList _ _ _ _ (fr [(Iv x), (Iv y), Ud, Ud, (Fl 0), (Iv x), (Fl (FloatKind.f32.nearest x)), (Fl r3), (Iv y), (Fl (FloatKind.f32.nearest y)), (Fl r8), Ud]) _
  refine seqd rfl rfl (does_float (.inr (.inr (.inl rfl))) (ev rfl) (ev rfl)) ?_; rintro _ w16 ⟨r13, rfl, h14, E15⟩
  have X17 := Ext.gr X12 E15
  show wpList _ _ _ _ (fr [(Iv x), (Iv y), Ud, Ud, (Fl 0), (Iv x), (Fl (FloatKind.f32.nearest x)), (Fl r3), (Iv y), (Fl (FloatKind.f32.nearest y)), (Fl r8), (Fl r13)]) _
  refine q_is (l' := [(Iv x), (Iv y), Ud, Ud, (Fl r13), (Iv x), (Fl (FloatKind.f32.nearest x)), (Fl r3), (Iv y), (Fl (FloatKind.f32.nearest y)), (Fl r8), (Fl r13)]) rfl rfl (does_assign (u := (Fl r13)) (ev rfl)) rfl ?_
  refine wpList_nil (hK2 _ _ ?_)
  refine wp_ret ?_
  refine ret_val (v := (Fl r13)) (res_T rfl (slot rfl)) X17 ?_
  have x18 : cf .f32 r13 = shareF x y := by first | with_reducible rfl | (simp only [shareF, nrF, h4, h9, h14]; done) | (simp [shareF, nrF, h4, h9, h14]; done) | rfl
  exact ⟨r13, rfl, x18⟩

/- (*impl.Camera).ray -/
theorem c_impl_Camera_ray (c_b : Nat) (c_o : Nat) (c : List Value) (A_c : CamT) (x : Int) (y : Int) (w : World) (hc_c : Cells w c_b c_o c) (hv_c : RCamT w A_c c) : Gives Try.prog 73 #[(Pt c_b c_o), (Iv x), (Iv y)] w (fun v w' => ∃ cs_1 : List Value, v = (.agg cs_1.toArray) ∧ RRayT w (rayC A_c x y) cs_1) := by
  obtain ⟨r1, r3, r5, r7, r9, r11, r13, rfl, h2, h4, h6, h8, h10, h12, h14⟩ := hv_c
  refine enter [(Pt c_b c_o), (Iv x), (Iv y), Ud, Ud, Ud, Ud, Ud, Ud, Ud, Ud, Ud, Ud, Ud, Ud, Ud, Ud, Ud, Ud, Ud, Ud, Ud, Ud, Ud, Ud, Ud, Ud, Ud, Ud, Ud, Ud, Ud, Ud, Ud, Ud, Ud, Ud, Ud, Ud, Ud, Ud, Ud, Ud, Ud, Ud, Ud, Ud, Ud, Ud, Ud, Ud, Ud, Ud, Ud, Ud, Ud, Ud, Ud, Ud, Ud, Ud, Ud, Ud, Ud, Ud, Ud, Ud, Ud] Try.func73 rfl Try.ntmps73 rfl ?_
  refine wp_seq_k fun K15 hK15 => ?_
  refine wp_region_lit ?_
  refine seqd rfl rfl (does_alloc z64) ?_; rintro _ w20 ⟨b16, rfl, hb17, hB18, E19⟩
  have n21 : c_b < b16 := Nat.lt_of_lt_of_le (cell_lt (Cells.at hc_c 0 rfl)) hb17
  have g22 : w.heap.size ≤ b16 := Nat.le_trans (Below.size (Ext.refl w)) hb17
  change Blk _ _ [(Fl 0), (Fl 0), (Fl 0), (Fl 0), (Fl 0), (Fl 0)] at hB18
  have X23 := Ext.gr (Ext.refl w) E19
  show wpList _ _ _ _ (fr [(Pt c_b c_o), (Iv x), (Iv y), Ud, Ud, Ud, (Pt b16 0), Ud, Ud, Ud, Ud, Ud, Ud, Ud, Ud, Ud, Ud, Ud, Ud, Ud, Ud, Ud, Ud, Ud, Ud, Ud, Ud, Ud, Ud, Ud, Ud, Ud, Ud, Ud, Ud, Ud, Ud, Ud, Ud, Ud, Ud, Ud, Ud, Ud, Ud, Ud, Ud, Ud, Ud, Ud, Ud, Ud, Ud, Ud, Ud, Ud, Ud, Ud, Ud, Ud, Ud, Ud, Ud, Ud, Ud, Ud, Ud, Ud]) _
  refine wpList_nil (hK15 _ _ ?_)
  refine wp_seq_k fun K24 hK24 => ?_
  refine wp_region_lit ?_
  refine q_is (l' := [(Pt c_b c_o), (Iv x), (Iv y), Ud, Ud, Ud, (Pt b16 0), Ud, Ud, Ud, Ud, Ud, Ud, (Pt c_b c_o), Ud, Ud, Ud, Ud, Ud, Ud, Ud, Ud, Ud, Ud, Ud, Ud, Ud, Ud, Ud, Ud, Ud, Ud, Ud, Ud, Ud, Ud, Ud, Ud, Ud, Ud, Ud, Ud, Ud, Ud, Ud, Ud, Ud, Ud, Ud, Ud, Ud, Ud, Ud, Ud, Ud, Ud, Ud, Ud, Ud, Ud, Ud, Ud, Ud, Ud, Ud, Ud, Ud, Ud]) rfl rfl (does_move (u := (Pt c_b c_o)) (ev rfl)) rfl ?_
  refine seqd rfl rfl (does_call (args := #[(Pt c_b c_o)]) cal65 (evs rfl) (c_impl_Camera_axes c_b c_o [(Fl r1), (Fl r3), (Fl r5), (Fl r7), (Fl r9), (Fl r11), (Fl r13), (Iv A_c.width), (Iv A_c.height)] A_c _ (hc_c.ext X23) ⟨r1, r3, r5, r7, r9, r11, r13, rfl, h2, h4, h6, h8, h10, h12, h14⟩)) ?_; rintro _ w26 ⟨E25, ⟨_, _, _, rfl, ⟨r27, r29, r31, rfl, h28, h30, h32⟩, ⟨r33, r35, r37, rfl, h34, h36, h38⟩, ⟨r39, r41, r43, rfl, h40, h42, h44⟩⟩⟩
  have X45 := Ext.gr X23 E25
  show wpList _ _ _ _ (fr [(Pt c_b c_o), (Iv x), (Iv y), Ud, Ud, Ud, (Pt b16 0), Ud, Ud, Ud, Ud, Ud, Ud, (Pt c_b c_o), (.tuple #[(.agg #[(Fl r27), (Fl r29), (Fl r31)]), (.agg #[(Fl r33), (Fl r35), (Fl r37)]), (.agg #[(Fl r39), (Fl r41), (Fl r43)])]), Ud, Ud, Ud, Ud, Ud, Ud, Ud, Ud, Ud, Ud, Ud, Ud, Ud, Ud, Ud, Ud, Ud, Ud, Ud, Ud, Ud, Ud, Ud, Ud, Ud, Ud, Ud, Ud, Ud, Ud, Ud, Ud, Ud, Ud, Ud, Ud, Ud, Ud, Ud, Ud, Ud, Ud, Ud, Ud, Ud, Ud, Ud, Ud, Ud, Ud, Ud, Ud, Ud]) _
  refine q_is (l' := [(Pt c_b c_o), (Iv x), (Iv y), Ud, Ud, Ud, (Pt b16 0), Ud, Ud, Ud, Ud, Ud, (.tuple #[(.agg #[(Fl r27), (Fl r29), (Fl r31)]), (.agg #[(Fl r33), (Fl r35), (Fl r37)]), (.agg #[(Fl r39), (Fl r41), (Fl r43)])]), (Pt c_b c_o), (.tuple #[(.agg #[(Fl r27), (Fl r29), (Fl r31)]), (.agg #[(Fl r33), (Fl r35), (Fl r37)]), (.agg #[(Fl r39), (Fl r41), (Fl r43)])]), Ud, Ud, Ud, Ud, Ud, Ud, Ud, Ud, Ud, Ud, Ud, Ud, Ud, Ud, Ud, Ud, Ud, Ud, Ud, Ud, Ud, Ud, Ud, Ud, Ud, Ud, Ud, Ud, Ud, Ud, Ud, Ud, Ud, Ud, Ud, Ud, Ud, Ud, Ud, Ud, Ud, Ud, Ud, Ud, Ud, Ud, Ud, Ud, Ud, Ud, Ud, Ud, Ud]) rfl rfl (does_move (u := (.tuple #[(.agg #[(Fl r27), (Fl r29), (Fl r31)]), (.agg #[(Fl r33), (Fl r35), (Fl r37)]), (.agg #[(Fl r39), (Fl r41), (Fl r43)])])) (ev rfl)) rfl ?_
  refine q_is (l' := [(Pt c_b c_o), (Iv x), (Iv y), Ud, Ud, Ud, (Pt b16 0), Ud, Ud, Ud, Ud, Ud, (.tuple #[(.agg #[(Fl r27), (Fl r29), (Fl r31)]), (.agg #[(Fl r33), (Fl r35), (Fl r37)]), (.agg #[(Fl r39), (Fl r41), (Fl r43)])]), (Pt c_b c_o), (.tuple #[(.agg #[(Fl r27), (Fl r29), (Fl r31)]), (.agg #[(Fl r33), (Fl r35), (Fl r37)]), (.agg #[(Fl r39), (Fl r41), (Fl r43)])]), (.agg #[(Fl r27), (Fl r29), (Fl r31)]), Ud, Ud, Ud, Ud, Ud, Ud, Ud, Ud, Ud, Ud, Ud, Ud, Ud, Ud, Ud, Ud, Ud, Ud, Ud, Ud, Ud, Ud, Ud, Ud, Ud, Ud, Ud, Ud, Ud, Ud, Ud, Ud, Ud, Ud, Ud, Ud, Ud, Ud, Ud, Ud, Ud, Ud, Ud, Ud, Ud, Ud, Ud, Ud, Ud, Ud, Ud, Ud]) rfl rfl (does_extract (vs := #[(.agg #[(Fl r27), (Fl r29), (Fl r31)]), (.agg #[(Fl r33), (Fl r35), (Fl r37)]), (.agg #[(Fl r39), (Fl r41), (Fl r43)])]) (u := (.agg #[(Fl r27), (Fl r29), (Fl r31)])) (ev rfl) rfl) rfl ?_
  refine q_is (l' := [(Pt c_b c_o), (Iv x), (Iv y), Ud, Ud, Ud, (Pt b16 0), Ud, Ud, Ud, Ud, Ud, (.tuple #[(.agg #[(Fl r27), (Fl r29), (Fl r31)]), (.agg #[(Fl r33), (Fl r35), (Fl r37)]), (.agg #[(Fl r39), (Fl r41), (Fl r43)])]), (Pt c_b c_o), (.tuple #[(.agg #[(Fl r27), (Fl r29), (Fl r31)]), (.agg #[(Fl r33), (Fl r35), (Fl r37)]), (.agg #[(Fl r39), (Fl r41), (Fl r43)])]), (.agg #[(Fl r27), (Fl r29), (Fl r31)]), (.agg #[(Fl r33), (Fl r35), (Fl r37)]), Ud, Ud, Ud, Ud, Ud, Ud, Ud, Ud, Ud, Ud, Ud, Ud, Ud, Ud, Ud, Ud, Ud, Ud, Ud, Ud, Ud, Ud, Ud, Ud, Ud, Ud, Ud, Ud, Ud, Ud, Ud, Ud, Ud, Ud, Ud, Ud, Ud, Ud, Ud, Ud, Ud, Ud, Ud, Ud, Ud, Ud, Ud, Ud, Ud, Ud, Ud]) rfl rfl (does_extract (vs := #[(.agg #[(Fl r27), (Fl r29), (Fl r31)]), (.agg #[(Fl r33), (Fl r35), (Fl r37)]), (.agg #[(Fl r39), (Fl r41), (Fl r43)])]) (u := (.agg #[(Fl r33), (Fl r35), (Fl r37)])) (ev rfl) rfl) rfl ?_
  refine q_is (l' := [(Pt c_b c_o), (Iv x), (Iv y), Ud, Ud, Ud, (Pt b16 0), Ud, Ud, Ud, Ud, Ud, (.tuple #[(.agg #[(Fl r27), (Fl r29), (Fl r31)]), (.agg #[(Fl r33), (Fl r35), (Fl r37)]), (.agg #[(Fl r39), (Fl r41), (Fl r43)])]), (Pt c_b c_o), (.tuple #[(.agg #[(Fl r27), (Fl r29), (Fl r31)]), (.agg #[(Fl r33), (Fl r35), (Fl r37)]), (.agg #[(Fl r39), (Fl r41), (Fl r43)])]), (.agg #[(Fl r27), (Fl r29), (Fl r31)]), (.agg #[(Fl r33), (Fl r35), (Fl r37)]), (.agg #[(Fl r39), (Fl r41), (Fl r43)]), Ud, Ud, Ud, Ud, Ud, Ud, Ud, Ud, Ud, Ud, Ud, Ud, Ud, Ud, Ud, Ud, Ud, Ud, Ud, Ud, Ud, Ud, Ud, Ud, Ud, Ud, Ud, Ud, Ud, Ud, Ud, Ud, Ud, Ud, Ud, Ud, Ud, Ud, Ud, Ud, Ud, Ud, Ud, Ud, Ud, Ud, Ud, Ud, Ud, Ud]) rfl rfl (does_extract (vs := #[(.agg #[(Fl r27), (Fl r29), (Fl r31)]), (.agg #[(Fl r33), (Fl r35), (Fl r37)]), (.agg #[(Fl r39), (Fl r41), (Fl r43)])]) (u := (.agg #[(Fl r39), (Fl r41), (Fl r43)])) (ev rfl) rfl) rfl ?_
  refine seqd rfl rfl (does_alloc z26) ?_; rintro _ w50 ⟨b46, rfl, hb47, hB48, E49⟩
  have n51 : c_b < b46 := Nat.lt_of_lt_of_le (cell_lt (Cells.at (hc_c.ext X45) 0 rfl)) hb47
  have n52 : b16 < b46 := Nat.lt_of_lt_of_le (Blk.lt (hB18.ext E25)) hb47
  have g53 : w.heap.size ≤ b46 := Nat.le_trans (Below.size X45) hb47
  change Blk _ _ [(Fl 0), (Fl 0), (Fl 0)] at hB48
  have X54 := Ext.gr X45 E49
  show wpList _ _ _ _ (fr [(Pt c_b c_o), (Iv x), (Iv y), Ud, Ud, Ud, (Pt b16 0), (Pt b46 0), Ud, Ud, Ud, Ud, (.tuple #[(.agg #[(Fl r27), (Fl r29), (Fl r31)]), (.agg #[(Fl r33), (Fl r35), (Fl r37)]), (.agg #[(Fl r39), (Fl r41), (Fl r43)])]), (Pt c_b c_o), (.tuple #[(.agg #[(Fl r27), (Fl r29), (Fl r31)]), (.agg #[(Fl r33), (Fl r35), (Fl r37)]), (.agg #[(Fl r39), (Fl r41), (Fl r43)])]), (.agg #[(Fl r27), (Fl r29), (Fl r31)]), (.agg #[(Fl r33), (Fl r35), (Fl r37)]), (.agg #[(Fl r39), (Fl r41), (Fl r43)]), Ud, Ud, Ud, Ud, Ud, Ud, Ud, Ud, Ud, Ud, Ud, Ud, Ud, Ud, Ud, Ud, Ud, Ud, Ud, Ud, Ud, Ud, Ud, Ud, Ud, Ud, Ud, Ud, Ud, Ud, Ud, Ud, Ud, Ud, Ud, Ud, Ud, Ud, Ud, Ud, Ud, Ud, Ud, Ud, Ud, Ud, Ud, Ud, Ud, Ud]) _
  refine seqd rfl rfl (does_alloc z26) ?_; rintro _ w59 ⟨b55, rfl, hb56, hB57, E58⟩
  have n60 : c_b < b55 := Nat.lt_of_lt_of_le (cell_lt (Cells.at (hc_c.ext X54) 0 rfl)) hb56
  have n61 : b16 < b55 := Nat.lt_of_lt_of_le (Blk.lt ((hB18.ext E25).ext E49)) hb56
  have n62 : b46 < b55 := Nat.lt_of_lt_of_le (Blk.lt hB48) hb56
  have g63 : w.heap.size ≤ b55 := Nat.le_trans (Below.size X54) hb56
  change Blk _ _ [(Fl 0), (Fl 0), (Fl 0)] at hB57
  have X64 := Ext.gr X54 E58
  show wpList _ _ _ _ (fr [(Pt c_b c_o), (Iv x), (Iv y), Ud, Ud, Ud, (Pt b16 0), (Pt b46 0), (Pt b55 0), Ud, Ud, Ud, (.tuple #[(.agg #[(Fl r27), (Fl r29), (Fl r31)]), (.agg #[(Fl r33), (Fl r35), (Fl r37)]), (.agg #[(Fl r39), (Fl r41), (Fl r43)])]), (Pt c_b c_o), (.tuple #[(.agg #[(Fl r27), (Fl r29), (Fl r31)]), (.agg #[(Fl r33), (Fl r35), (Fl r37)]), (.agg #[(Fl r39), (Fl r41), (Fl r43)])]), (.agg #[(Fl r27), (Fl r29), (Fl r31)]), (.agg #[(Fl r33), (Fl r35), (Fl r37)]), (.agg #[(Fl r39), (Fl r41), (Fl r43)]), Ud, Ud, Ud, Ud, Ud, Ud, Ud, Ud, Ud, Ud, Ud, Ud, Ud, Ud, Ud, Ud, Ud, Ud, Ud, Ud, Ud, Ud, Ud, Ud, Ud, Ud, Ud, Ud, Ud, Ud, Ud, Ud, Ud, Ud, Ud, Ud, Ud, Ud, Ud, Ud, Ud, Ud, Ud, Ud, Ud, Ud, Ud, Ud, Ud, Ud]) _
  refine seqd rfl rfl (does_alloc z26) ?_; rintro _ w69 ⟨b65, rfl, hb66, hB67, E68⟩
  have n70 : c_b < b65 := Nat.lt_of_lt_of_le (cell_lt (Cells.at (hc_c.ext X64) 0 rfl)) hb66
  have n71 : b16 < b65 := Nat.lt_of_lt_of_le (Blk.lt (((hB18.ext E25).ext E49).ext E58)) hb66
  have n72 : b46 < b65 := Nat.lt_of_lt_of_le (Blk.lt (hB48.ext E58)) hb66
  have n73 : b55 < b65 := Nat.lt_of_lt_of_le (Blk.lt hB57) hb66
  have g74 : w.heap.size ≤ b65 := Nat.le_trans (Below.size X64) hb66
  change Blk _ _ [(Fl 0), (Fl 0), (Fl 0)] at hB67
  have X75 := Ext.gr X64 E68
  show wpList _ _ _ _ (fr [(Pt c_b c_o), (Iv x), (Iv y), Ud, Ud, Ud, (Pt b16 0), (Pt b46 0), (Pt b55 0), (Pt b65 0), Ud, Ud, (.tuple #[(.agg #[(Fl r27), (Fl r29), (Fl r31)]), (.agg #[(Fl r33), (Fl r35), (Fl r37)]), (.agg #[(Fl r39), (Fl r41), (Fl r43)])]), (Pt c_b c_o), (.tuple #[(.agg #[(Fl r27), (Fl r29), (Fl r31)]), (.agg #[(Fl r33), (Fl r35), (Fl r37)]), (.agg #[(Fl r39), (Fl r41), (Fl r43)])]), (.agg #[(Fl r27), (Fl r29), (Fl r31)]), (.agg #[(Fl r33), (Fl r35), (Fl r37)]), (.agg #[(Fl r39), (Fl r41), (Fl r43)]), Ud, Ud, Ud, Ud, Ud, Ud, Ud, Ud, Ud, Ud, Ud, Ud, Ud, Ud, Ud, Ud, Ud, Ud, Ud, Ud, Ud, Ud, Ud, Ud, Ud, Ud, Ud, Ud, Ud, Ud, Ud, Ud, Ud, Ud, Ud, Ud, Ud, Ud, Ud, Ud, Ud, Ud, Ud, Ud, Ud, Ud, Ud, Ud, Ud, Ud]) _
  refine seqn rfl rfl (does_store (n := 3) (cs := [(Fl 0), (Fl 0), (Fl 0)]) (u := (.agg #[(Fl r27), (Fl r29), (Fl r31)])) (ev rfl) (ev rfl) Try.sizeOf26 rfl ((hB48.ext E58).ext E68) (Nat.le_of_ble_eq_true rfl) rfl) ?_; rintro _ w78 ⟨rfl, W76, hB77⟩
  change Blk _ _ [(Fl r27), (Fl r29), (Fl r31)] at hB77
  have X79 := Below.wr X75 W76 g53
  refine seqn rfl rfl (does_store (n := 3) (cs := [(Fl 0), (Fl 0), (Fl 0)]) (u := (.agg #[(Fl r33), (Fl r35), (Fl r37)])) (ev rfl) (ev rfl) Try.sizeOf26 rfl ((hB57.ext E68).wr W76 (Nat.ne_of_gt n62)) (Nat.le_of_ble_eq_true rfl) rfl) ?_; rintro _ w82 ⟨rfl, W80, hB81⟩
  change Blk _ _ [(Fl r33), (Fl r35), (Fl r37)] at hB81
  have X83 := Below.wr X79 W80 g63
  refine seqn rfl rfl (does_store (n := 3) (cs := [(Fl 0), (Fl 0), (Fl 0)]) (u := (.agg #[(Fl r39), (Fl r41), (Fl r43)])) (ev rfl) (ev rfl) Try.sizeOf26 rfl ((hB67.wr W76 (Nat.ne_of_gt n72)).wr W80 (Nat.ne_of_gt n73)) (Nat.le_of_ble_eq_true rfl) rfl) ?_; rintro _ w86 ⟨rfl, W84, hB85⟩
  change Blk _ _ [(Fl r39), (Fl r41), (Fl r43)] at hB85
  have X87 := Below.wr X83 W84 g74
  refine wpList_nil (hK24 _ _ ?_)
  refine wp_seq_k fun K88 hK88 => ?_
  refine region_draw (
    [Fact.pure [] (fun v => v = (Iv x)),
    Fact.pure [] (fun v => v = (Pt c_b c_o)),
    Fact.pure [19] (fun v => v = (Pt c_b c_o)),
    Fact.pure [20] (fun v => v = (Pt c_b (c_o + 7))),
    Fact.pure [21] (fun v => v = (Iv A_c.width)),
    Fact.pure [18, 22] (fun v => ∃ r_1 : Nat, v = (Fl r_1) ∧ cf .f32 r_1 = shareF x A_c.width),
    Fact.pure [23] (fun v => ∃ r_1 : Nat, v = (Fl r_1) ∧ cf .f32 r_1 = fop .sub .f32 (shareF x A_c.width) (cf .f32 1065353216)),
    Fact.pure [] (fun v => v = (Pt c_b c_o)),
    Fact.pure [25] (fun v => v = (Pt c_b c_o)),
    Fact.pure [26] (fun v => v = (Pt c_b (c_o + 6))),
    Fact.pure [27] (fun v => v = (Fl r13)),
    Fact.pure [24, 28] (fun v => ∃ r_1 : Nat, v = (Fl r_1) ∧ cf .f32 r_1 = fop .mul .f32 (fop .sub .f32 (shareF x A_c.width) (cf .f32 1065353216)) (cf .f32 r13)),
    Fact.pure [] (fun v => v = (Pt c_b c_o)),
    Fact.pure [30] (fun v => v = (Pt c_b c_o)),
    Fact.pure [31] (fun v => v = (Pt c_b (c_o + 7))),
    Fact.pure [32] (fun v => v = (Iv A_c.width)),
    Fact.pure [33] (fun v => v = (Fl (FloatKind.f32.nearest A_c.width))),
    Fact.pure [] (fun v => v = (Pt c_b c_o)),
    Fact.pure [35] (fun v => v = (Pt c_b c_o)),
    Fact.pure [36] (fun v => v = (Pt c_b (c_o + 8))),
    Fact.pure [37] (fun v => v = (Iv A_c.height)),
    Fact.pure [38] (fun v => v = (Fl (FloatKind.f32.nearest A_c.height))),
    Fact.pure [34, 39] (fun v => ∃ r_1 : Nat, v = (Fl r_1) ∧ cf .f32 r_1 = fop .quo .f32 (cf .f32 (FloatKind.f32.nearest A_c.width)) (cf .f32 (FloatKind.f32.nearest A_c.height))),
    Fact.pure [29, 40] (fun v => ∃ r_1 : Nat, v = (Fl r_1) ∧ cf .f32 r_1 = fop .mul .f32 (fop .mul .f32 (fop .sub .f32 (shareF x A_c.width) (cf .f32 1065353216)) (cf .f32 r13)) (fop .quo .f32 (cf .f32 (FloatKind.f32.nearest A_c.width)) (cf .f32 (FloatKind.f32.nearest A_c.height))))]) mixed (by kernel_rfl) (by intro _ _ d _ _ h; cases d <;> exact h) ?_
  obtain ⟨w89, hw91⟩ : ∃ w', w' = World.drew w86 := ⟨_, rfl⟩; rw [← hw91]; have E90 : Ext w86 w89 := by rw [hw91]; exact Ext.draw _
  clear hw91
  have X92 := Ext.gr X87 E90
  refine RW_d (fun v93 => [(Pt c_b c_o), (Iv x), (Iv y), Ud, Ud, Ud, (Pt b16 0), (Pt b46 0), (Pt b55 0), (Pt b65 0), Ud, Ud, (.tuple #[(.agg #[(Fl r27), (Fl r29), (Fl r31)]), (.agg #[(Fl r33), (Fl r35), (Fl r37)]), (.agg #[(Fl r39), (Fl r41), (Fl r43)])]), (Pt c_b c_o), (.tuple #[(.agg #[(Fl r27), (Fl r29), (Fl r31)]), (.agg #[(Fl r33), (Fl r35), (Fl r37)]), (.agg #[(Fl r39), (Fl r41), (Fl r43)])]), (.agg #[(Fl r27), (Fl r29), (Fl r31)]), (.agg #[(Fl r33), (Fl r35), (Fl r37)]), (.agg #[(Fl r39), (Fl r41), (Fl r43)]), v93, Ud, Ud, Ud, Ud, Ud, Ud, Ud, Ud, Ud, Ud, Ud, Ud, Ud, Ud, Ud, Ud, Ud, Ud, Ud, Ud, Ud, Ud, Ud, Ud, Ud, Ud, Ud, Ud, Ud, Ud, Ud, Ud, Ud, Ud, Ud, Ud, Ud, Ud, Ud, Ud, Ud, Ud, Ud, Ud, Ud, Ud, Ud, Ud, Ud]) rfl (fun _ => rfl) (fun u hu hF => ?_) (fun v93 => ?_)
  · clear hF
    refine doesG_un rfl ?_
    refine (does_move (u := (Iv x)) (ev rfl)).mono ?_; rintro _ _ ⟨rfl, rfl⟩
    exact ⟨rfl, Ext.refl _⟩
  refine RW_d (fun v94 => [(Pt c_b c_o), (Iv x), (Iv y), Ud, Ud, Ud, (Pt b16 0), (Pt b46 0), (Pt b55 0), (Pt b65 0), Ud, Ud, (.tuple #[(.agg #[(Fl r27), (Fl r29), (Fl r31)]), (.agg #[(Fl r33), (Fl r35), (Fl r37)]), (.agg #[(Fl r39), (Fl r41), (Fl r43)])]), (Pt c_b c_o), (.tuple #[(.agg #[(Fl r27), (Fl r29), (Fl r31)]), (.agg #[(Fl r33), (Fl r35), (Fl r37)]), (.agg #[(Fl r39), (Fl r41), (Fl r43)])]), (.agg #[(Fl r27), (Fl r29), (Fl r31)]), (.agg #[(Fl r33), (Fl r35), (Fl r37)]), (.agg #[(Fl r39), (Fl r41), (Fl r43)]), v93, v94, Ud, Ud, Ud, Ud, Ud, Ud, Ud, Ud, Ud, Ud, Ud, Ud, Ud, Ud, Ud, Ud, Ud, Ud, Ud, Ud, Ud, Ud, Ud, Ud, Ud, Ud, Ud, Ud, Ud, Ud, Ud, Ud, Ud, Ud, Ud, Ud, Ud, Ud, Ud, Ud, Ud, Ud, Ud, Ud, Ud, Ud, Ud, Ud]) rfl (fun _ => rfl) (fun u hu hF => ?_) (fun v94 => ?_)
  · clear hF
    refine doesG_un rfl ?_
    refine (does_move (u := (Pt c_b c_o)) (ev rfl)).mono ?_; rintro _ _ ⟨rfl, rfl⟩
    exact ⟨rfl, Ext.refl _⟩
  refine RW_d (fun v95 => [(Pt c_b c_o), (Iv x), (Iv y), Ud, Ud, Ud, (Pt b16 0), (Pt b46 0), (Pt b55 0), (Pt b65 0), Ud, Ud, (.tuple #[(.agg #[(Fl r27), (Fl r29), (Fl r31)]), (.agg #[(Fl r33), (Fl r35), (Fl r37)]), (.agg #[(Fl r39), (Fl r41), (Fl r43)])]), (Pt c_b c_o), (.tuple #[(.agg #[(Fl r27), (Fl r29), (Fl r31)]), (.agg #[(Fl r33), (Fl r35), (Fl r37)]), (.agg #[(Fl r39), (Fl r41), (Fl r43)])]), (.agg #[(Fl r27), (Fl r29), (Fl r31)]), (.agg #[(Fl r33), (Fl r35), (Fl r37)]), (.agg #[(Fl r39), (Fl r41), (Fl r43)]), v93, v94, v95, Ud, Ud, Ud, Ud, Ud, Ud, Ud, Ud, Ud, Ud, Ud, Ud, Ud, Ud, Ud, Ud, Ud, Ud, Ud, Ud, Ud, Ud, Ud, Ud, Ud, Ud, Ud, Ud, Ud, Ud, Ud, Ud, Ud, Ud, Ud, Ud, Ud, Ud, Ud, Ud, Ud, Ud, Ud, Ud, Ud, Ud, Ud]) rfl (fun _ => rfl) (fun u hu hF => ?_) (fun v95 => ?_)
  · have h19_ : v94 = (Pt c_b c_o) := hF.1
    clear hF
    refine doesG_un rfl ?_
    obtain rfl := h19_
    refine (does_nilCheck (ev rfl)).mono ?_; rintro _ _ ⟨rfl, rfl⟩
    exact ⟨rfl, Ext.refl _⟩
  refine RW_d (fun v96 => [(Pt c_b c_o), (Iv x), (Iv y), Ud, Ud, Ud, (Pt b16 0), (Pt b46 0), (Pt b55 0), (Pt b65 0), Ud, Ud, (.tuple #[(.agg #[(Fl r27), (Fl r29), (Fl r31)]), (.agg #[(Fl r33), (Fl r35), (Fl r37)]), (.agg #[(Fl r39), (Fl r41), (Fl r43)])]), (Pt c_b c_o), (.tuple #[(.agg #[(Fl r27), (Fl r29), (Fl r31)]), (.agg #[(Fl r33), (Fl r35), (Fl r37)]), (.agg #[(Fl r39), (Fl r41), (Fl r43)])]), (.agg #[(Fl r27), (Fl r29), (Fl r31)]), (.agg #[(Fl r33), (Fl r35), (Fl r37)]), (.agg #[(Fl r39), (Fl r41), (Fl r43)]), v93, v94, v95, v96, Ud, Ud, Ud, Ud, Ud, Ud, Ud, Ud, Ud, Ud, Ud, Ud, Ud, Ud, Ud, Ud, Ud, Ud, Ud, Ud, Ud, Ud, Ud, Ud, Ud, Ud, Ud, Ud, Ud, Ud, Ud, Ud, Ud, Ud, Ud, Ud, Ud, Ud, Ud, Ud, Ud, Ud, Ud, Ud, Ud, Ud]) rfl (fun _ => rfl) (fun u hu hF => ?_) (fun v96 => ?_)
  · have h20_ : v95 = (Pt c_b c_o) := hF.1
    clear hF
    refine doesG_un rfl ?_
    obtain rfl := h20_
    refine (does_fieldAddr (ev rfl) fa48_3).mono ?_; rintro _ _ ⟨rfl, rfl⟩
    exact ⟨rfl, Ext.refl _⟩
  refine RW_d (fun v97 => [(Pt c_b c_o), (Iv x), (Iv y), Ud, Ud, Ud, (Pt b16 0), (Pt b46 0), (Pt b55 0), (Pt b65 0), Ud, Ud, (.tuple #[(.agg #[(Fl r27), (Fl r29), (Fl r31)]), (.agg #[(Fl r33), (Fl r35), (Fl r37)]), (.agg #[(Fl r39), (Fl r41), (Fl r43)])]), (Pt c_b c_o), (.tuple #[(.agg #[(Fl r27), (Fl r29), (Fl r31)]), (.agg #[(Fl r33), (Fl r35), (Fl r37)]), (.agg #[(Fl r39), (Fl r41), (Fl r43)])]), (.agg #[(Fl r27), (Fl r29), (Fl r31)]), (.agg #[(Fl r33), (Fl r35), (Fl r37)]), (.agg #[(Fl r39), (Fl r41), (Fl r43)]), v93, v94, v95, v96, v97, Ud, Ud, Ud, Ud, Ud, Ud, Ud, Ud, Ud, Ud, Ud, Ud, Ud, Ud, Ud, Ud, Ud, Ud, Ud, Ud, Ud, Ud, Ud, Ud, Ud, Ud, Ud, Ud, Ud, Ud, Ud, Ud, Ud, Ud, Ud, Ud, Ud, Ud, Ud, Ud, Ud, Ud, Ud, Ud, Ud]) rfl (fun _ => rfl) (fun u hu hF => ?_) (fun v97 => ?_)
  · have h21_ : v96 = (Pt c_b (c_o + 7)) := hF.1
    clear hF
    refine doesG_un rfl ?_
    obtain rfl := h21_
    refine (does_load (u := (Iv A_c.width)) (ev rfl) Try.isAgg2 (Cells.at ((hc_c.ext (Ext.gr X87 E90)).ext hu) 7 rfl)).mono ?_; rintro _ _ ⟨rfl, rfl⟩
    exact ⟨rfl, Ext.refl _⟩
  refine RW_d (fun v98 => [(Pt c_b c_o), (Iv x), (Iv y), Ud, Ud, Ud, (Pt b16 0), (Pt b46 0), (Pt b55 0), (Pt b65 0), Ud, Ud, (.tuple #[(.agg #[(Fl r27), (Fl r29), (Fl r31)]), (.agg #[(Fl r33), (Fl r35), (Fl r37)]), (.agg #[(Fl r39), (Fl r41), (Fl r43)])]), (Pt c_b c_o), (.tuple #[(.agg #[(Fl r27), (Fl r29), (Fl r31)]), (.agg #[(Fl r33), (Fl r35), (Fl r37)]), (.agg #[(Fl r39), (Fl r41), (Fl r43)])]), (.agg #[(Fl r27), (Fl r29), (Fl r31)]), (.agg #[(Fl r33), (Fl r35), (Fl r37)]), (.agg #[(Fl r39), (Fl r41), (Fl r43)]), v93, v94, v95, v96, v97, v98, Ud, Ud, Ud, Ud, Ud, Ud, Ud, Ud, Ud, Ud, Ud, Ud, Ud, Ud, Ud, Ud, Ud, Ud, Ud, Ud, Ud, Ud, Ud, Ud, Ud, Ud, Ud, Ud, Ud, Ud, Ud, Ud, Ud, Ud, Ud, Ud, Ud, Ud, Ud, Ud, Ud, Ud, Ud, Ud]) rfl (fun _ => rfl) (fun u hu hF => ?_) (fun v98 => ?_)
  · have h18_ : v93 = (Iv x) := hF.1
    have h22_ : v97 = (Iv A_c.width) := hF.2.1
    clear hF
    refine doesG_un rfl ?_
    obtain rfl := h18_
    obtain rfl := h22_
    refine (does_call (args := #[(Iv x), (Iv A_c.width)]) cal106 (evs rfl) (c_impl_share x A_c.width _)).mono ?_; rintro v u' ⟨hx, ⟨rn1, hv, k0⟩⟩
    exact ⟨⟨rn1, hv, (by simp only [k0])⟩, hx⟩
  refine RW_d (fun v99 => [(Pt c_b c_o), (Iv x), (Iv y), Ud, Ud, Ud, (Pt b16 0), (Pt b46 0), (Pt b55 0), (Pt b65 0), Ud, Ud, (.tuple #[(.agg #[(Fl r27), (Fl r29), (Fl r31)]), (.agg #[(Fl r33), (Fl r35), (Fl r37)]), (.agg #[(Fl r39), (Fl r41), (Fl r43)])]), (Pt c_b c_o), (.tuple #[(.agg #[(Fl r27), (Fl r29), (Fl r31)]), (.agg #[(Fl r33), (Fl r35), (Fl r37)]), (.agg #[(Fl r39), (Fl r41), (Fl r43)])]), (.agg #[(Fl r27), (Fl r29), (Fl r31)]), (.agg #[(Fl r33), (Fl r35), (Fl r37)]), (.agg #[(Fl r39), (Fl r41), (Fl r43)]), v93, v94, v95, v96, v97, v98, v99, Ud, Ud, Ud, Ud, Ud, Ud, Ud, Ud, Ud, Ud, Ud, Ud, Ud, Ud, Ud, Ud, Ud, Ud, Ud, Ud, Ud, Ud, Ud, Ud, Ud, Ud, Ud, Ud, Ud, Ud, Ud, Ud, Ud, Ud, Ud, Ud, Ud, Ud, Ud, Ud, Ud, Ud, Ud]) rfl (fun _ => rfl) (fun u hu hF => ?_) (fun v99 => ?_)
  · have h23_ : ∃ r_1 : Nat, v98 = (Fl r_1) ∧ cf .f32 r_1 = shareF x A_c.width := hF.1
    clear hF
    refine doesG_un rfl ?_
    obtain ⟨r23_1, rfl, h23_2⟩ := h23_
    refine (does_float (.inr (.inl rfl)) (ev rfl) (ev rfl)).mono ?_; rintro _ _ ⟨r, rfl, hr, hx⟩
    exact ⟨⟨r, rfl, (by simp only [hr, h23_2])⟩, hx⟩
  refine RW_d (fun v100 => [(Pt c_b c_o), (Iv x), (Iv y), Ud, Ud, Ud, (Pt b16 0), (Pt b46 0), (Pt b55 0), (Pt b65 0), Ud, Ud, (.tuple #[(.agg #[(Fl r27), (Fl r29), (Fl r31)]), (.agg #[(Fl r33), (Fl r35), (Fl r37)]), (.agg #[(Fl r39), (Fl r41), (Fl r43)])]), (Pt c_b c_o), (.tuple #[(.agg #[(Fl r27), (Fl r29), (Fl r31)]), (.agg #[(Fl r33), (Fl r35), (Fl r37)]), (.agg #[(Fl r39), (Fl r41), (Fl r43)])]), (.agg #[(Fl r27), (Fl r29), (Fl r31)]), (.agg #[(Fl r33), (Fl r35), (Fl r37)]), (.agg #[(Fl r39), (Fl r41), (Fl r43)]), v93, v94, v95, v96, v97, v98, v99, v100, Ud, Ud, Ud, Ud, Ud, Ud, Ud, Ud, Ud, Ud, Ud, Ud, Ud, Ud, Ud, Ud, Ud, Ud, Ud, Ud, Ud, Ud, Ud, Ud, Ud, Ud, Ud, Ud, Ud, Ud, Ud, Ud, Ud, Ud, Ud, Ud, Ud, Ud, Ud, Ud, Ud, Ud]) rfl (fun _ => rfl) (fun u hu hF => ?_) (fun v100 => ?_)
  · clear hF
    refine doesG_un rfl ?_
    refine (does_move (u := (Pt c_b c_o)) (ev rfl)).mono ?_; rintro _ _ ⟨rfl, rfl⟩
    exact ⟨rfl, Ext.refl _⟩
  refine RW_d (fun v101 => [(Pt c_b c_o), (Iv x), (Iv y), Ud, Ud, Ud, (Pt b16 0), (Pt b46 0), (Pt b55 0), (Pt b65 0), Ud, Ud, (.tuple #[(.agg #[(Fl r27), (Fl r29), (Fl r31)]), (.agg #[(Fl r33), (Fl r35), (Fl r37)]), (.agg #[(Fl r39), (Fl r41), (Fl r43)])]), (Pt c_b c_o), (.tuple #[(.agg #[(Fl r27), (Fl r29), (Fl r31)]), (.agg #[(Fl r33), (Fl r35), (Fl r37)]), (.agg #[(Fl r39), (Fl r41), (Fl r43)])]), (.agg #[(Fl r27), (Fl r29), (Fl r31)]), (.agg #[(Fl r33), (Fl r35), (Fl r37)]), (.agg #[(Fl r39), (Fl r41), (Fl r43)]), v93, v94, v95, v96, v97, v98, v99, v100, v101, Ud, Ud, Ud, Ud, Ud, Ud, Ud, Ud, Ud, Ud, Ud, Ud, Ud, Ud, Ud, Ud, Ud, Ud, Ud, Ud, Ud, Ud, Ud, Ud, Ud, Ud, Ud, Ud, Ud, Ud, Ud, Ud, Ud, Ud, Ud, Ud, Ud, Ud, Ud, Ud, Ud]) rfl (fun _ => rfl) (fun u hu hF => ?_) (fun v101 => ?_)
  · have h25_ : v100 = (Pt c_b c_o) := hF.1
    clear hF
    refine doesG_un rfl ?_
    obtain rfl := h25_
    refine (does_nilCheck (ev rfl)).mono ?_; rintro _ _ ⟨rfl, rfl⟩
    exact ⟨rfl, Ext.refl _⟩
  refine RW_d (fun v102 => [(Pt c_b c_o), (Iv x), (Iv y), Ud, Ud, Ud, (Pt b16 0), (Pt b46 0), (Pt b55 0), (Pt b65 0), Ud, Ud, (.tuple #[(.agg #[(Fl r27), (Fl r29), (Fl r31)]), (.agg #[(Fl r33), (Fl r35), (Fl r37)]), (.agg #[(Fl r39), (Fl r41), (Fl r43)])]), (Pt c_b c_o), (.tuple #[(.agg #[(Fl r27), (Fl r29), (Fl r31)]), (.agg #[(Fl r33), (Fl r35), (Fl r37)]), (.agg #[(Fl r39), (Fl r41), (Fl r43)])]), (.agg #[(Fl r27), (Fl r29), (Fl r31)]), (.agg #[(Fl r33), (Fl r35), (Fl r37)]), (.agg #[(Fl r39), (Fl r41), (Fl r43)]), v93, v94, v95, v96, v97, v98, v99, v100, v101, v102, Ud, Ud, Ud, Ud, Ud, Ud, Ud, Ud, Ud, Ud, Ud, Ud, Ud, Ud, Ud, Ud, Ud, Ud, Ud, Ud, Ud, Ud, Ud, Ud, Ud, Ud, Ud, Ud, Ud, Ud, Ud, Ud, Ud, Ud, Ud, Ud, Ud, Ud, Ud, Ud]) rfl (fun _ => rfl) (fun u hu hF => ?_) (fun v102 => ?_)
  · have h26_ : v101 = (Pt c_b c_o) := hF.1
    clear hF
    refine doesG_un rfl ?_
    obtain rfl := h26_
    refine (does_fieldAddr (ev rfl) fa48_2).mono ?_; rintro _ _ ⟨rfl, rfl⟩
    exact ⟨rfl, Ext.refl _⟩
  refine RW_d (fun v103 => [(Pt c_b c_o), (Iv x), (Iv y), Ud, Ud, Ud, (Pt b16 0), (Pt b46 0), (Pt b55 0), (Pt b65 0), Ud, Ud, (.tuple #[(.agg #[(Fl r27), (Fl r29), (Fl r31)]), (.agg #[(Fl r33), (Fl r35), (Fl r37)]), (.agg #[(Fl r39), (Fl r41), (Fl r43)])]), (Pt c_b c_o), (.tuple #[(.agg #[(Fl r27), (Fl r29), (Fl r31)]), (.agg #[(Fl r33), (Fl r35), (Fl r37)]), (.agg #[(Fl r39), (Fl r41), (Fl r43)])]), (.agg #[(Fl r27), (Fl r29), (Fl r31)]), (.agg #[(Fl r33), (Fl r35), (Fl r37)]), (.agg #[(Fl r39), (Fl r41), (Fl r43)]), v93, v94, v95, v96, v97, v98, v99, v100, v101, v102, v103, Ud, Ud, Ud, Ud, Ud, Ud, Ud, Ud, Ud, Ud, Ud, Ud, Ud, Ud, Ud, Ud, Ud, Ud, Ud, Ud, Ud, Ud, Ud, Ud, Ud, Ud, Ud, Ud, Ud, Ud, Ud, Ud, Ud, Ud, Ud, Ud, Ud, Ud, Ud]) rfl (fun _ => rfl) (fun u hu hF => ?_) (fun v103 => ?_)
  · have h27_ : v102 = (Pt c_b (c_o + 6)) := hF.1
    clear hF
    refine doesG_un rfl ?_
    obtain rfl := h27_
    refine (does_load (u := (Fl r13)) (ev rfl) Try.isAgg24 (Cells.at ((hc_c.ext (Ext.gr X87 E90)).ext hu) 6 rfl)).mono ?_; rintro _ _ ⟨rfl, rfl⟩
    exact ⟨rfl, Ext.refl _⟩
  refine RW_d (fun v104 => [(Pt c_b c_o), (Iv x), (Iv y), Ud, Ud, Ud, (Pt b16 0), (Pt b46 0), (Pt b55 0), (Pt b65 0), Ud, Ud, (.tuple #[(.agg #[(Fl r27), (Fl r29), (Fl r31)]), (.agg #[(Fl r33), (Fl r35), (Fl r37)]), (.agg #[(Fl r39), (Fl r41), (Fl r43)])]), (Pt c_b c_o), (.tuple #[(.agg #[(Fl r27), (Fl r29), (Fl r31)]), (.agg #[(Fl r33), (Fl r35), (Fl r37)]), (.agg #[(Fl r39), (Fl r41), (Fl r43)])]), (.agg #[(Fl r27), (Fl r29), (Fl r31)]), (.agg #[(Fl r33), (Fl r35), (Fl r37)]), (.agg #[(Fl r39), (Fl r41), (Fl r43)]), v93, v94, v95, v96, v97, v98, v99, v100, v101, v102, v103, v104, Ud, Ud, Ud, Ud, Ud, Ud, Ud, Ud, Ud, Ud, Ud, Ud, Ud, Ud, Ud, Ud, Ud, Ud, Ud, Ud, Ud, Ud, Ud, Ud, Ud, Ud, Ud, Ud, Ud, Ud, Ud, Ud, Ud, Ud, Ud, Ud, Ud, Ud]) rfl (fun _ => rfl) (fun u hu hF => ?_) (fun v104 => ?_)
  · have h24_ : ∃ r_1 : Nat, v99 = (Fl r_1) ∧ cf .f32 r_1 = fop .sub .f32 (shareF x A_c.width) (cf .f32 1065353216) := hF.1
    have h28_ : v103 = (Fl r13) := hF.2.1
    clear hF
    refine doesG_un rfl ?_
    obtain ⟨r24_1, rfl, h24_2⟩ := h24_
    obtain rfl := h28_
    refine (does_float (.inr (.inr (.inl rfl))) (ev rfl) (ev rfl)).mono ?_; rintro _ _ ⟨r, rfl, hr, hx⟩
    exact ⟨⟨r, rfl, (by simp only [hr, h24_2])⟩, hx⟩
  refine RW_d (fun v105 => [(Pt c_b c_o), (Iv x), (Iv y), Ud, Ud, Ud, (Pt b16 0), (Pt b46 0), (Pt b55 0), (Pt b65 0), Ud, Ud, (.tuple #[(.agg #[(Fl r27), (Fl r29), (Fl r31)]), (.agg #[(Fl r33), (Fl r35), (Fl r37)]), (.agg #[(Fl r39), (Fl r41), (Fl r43)])]), (Pt c_b c_o), (.tuple #[(.agg #[(Fl r27), (Fl r29), (Fl r31)]), (.agg #[(Fl r33), (Fl r35), (Fl r37)]), (.agg #[(Fl r39), (Fl r41), (Fl r43)])]), (.agg #[(Fl r27), (Fl r29), (Fl r31)]), (.agg #[(Fl r33), (Fl r35), (Fl r37)]), (.agg #[(Fl r39), (Fl r41), (Fl r43)]), v93, v94, v95, v96, v97, v98, v99, v100, v101, v102, v103, v104, v105, Ud, Ud, Ud, Ud, Ud, Ud, Ud, Ud, Ud, Ud, Ud, Ud, Ud, Ud, Ud, Ud, Ud, Ud, Ud, Ud, Ud, Ud, Ud, Ud, Ud, Ud, Ud, Ud, Ud, Ud, Ud, Ud, Ud, Ud, Ud, Ud, Ud]) rfl (fun _ => rfl) (fun u hu hF => ?_) (fun v105 => ?_)
  · clear hF
    refine doesG_un rfl ?_
    refine (does_move (u := (Pt c_b c_o)) (ev rfl)).mono ?_; rintro _ _ ⟨rfl, rfl⟩
    exact ⟨rfl, Ext.refl _⟩
  refine RW_d (fun v106 => [(Pt c_b c_o), (Iv x), (Iv y), Ud, Ud, Ud, (Pt b16 0), (Pt b46 0), (Pt b55 0), (Pt b65 0), Ud, Ud, (.tuple #[(.agg #[(Fl r27), (Fl r29), (Fl r31)]), (.agg #[(Fl r33), (Fl r35), (Fl r37)]), (.agg #[(Fl r39), (Fl r41), (Fl r43)])]), (Pt c_b c_o), (.tuple #[(.agg #[(Fl r27), (Fl r29), (Fl r31)]), (.agg #[(Fl r33), (Fl r35), (Fl r37)]), (.agg #[(Fl r39), (Fl r41), (Fl r43)])]), (.agg #[(Fl r27), (Fl r29), (Fl r31)]), (.agg #[(Fl r33), (Fl r35), (Fl r37)]), (.agg #[(Fl r39), (Fl r41), (Fl r43)]), v93, v94, v95, v96, v97, v98, v99, v100, v101, v102, v103, v104, v105, v106, Ud, Ud, Ud, Ud, Ud, Ud, Ud, Ud, Ud, Ud, Ud, Ud, Ud, Ud, Ud, Ud, Ud, Ud, Ud, Ud, Ud, Ud, Ud, Ud, Ud, Ud, Ud, Ud, Ud, Ud, Ud, Ud, Ud, Ud, Ud, Ud]) rfl (fun _ => rfl) (fun u hu hF => ?_) (fun v106 => ?_)
  · have h30_ : v105 = (Pt c_b c_o) := hF.1
    clear hF
    refine doesG_un rfl ?_
    obtain rfl := h30_
    refine (does_nilCheck (ev rfl)).mono ?_; rintro _ _ ⟨rfl, rfl⟩
    exact ⟨rfl, Ext.refl _⟩
  refine RW_d (fun v107 => [(Pt c_b c_o), (Iv x), (Iv y), Ud, Ud, Ud, (Pt b16 0), (Pt b46 0), (Pt b55 0), (Pt b65 0), Ud, Ud, (.tuple #[(.agg #[(Fl r27), (Fl r29), (Fl r31)]), (.agg #[(Fl r33), (Fl r35), (Fl r37)]), (.agg #[(Fl r39), (Fl r41), (Fl r43)])]), (Pt c_b c_o), (.tuple #[(.agg #[(Fl r27), (Fl r29), (Fl r31)]), (.agg #[(Fl r33), (Fl r35), (Fl r37)]), (.agg #[(Fl r39), (Fl r41), (Fl r43)])]), (.agg #[(Fl r27), (Fl r29), (Fl r31)]), (.agg #[(Fl r33), (Fl r35), (Fl r37)]), (.agg #[(Fl r39), (Fl r41), (Fl r43)]), v93, v94, v95, v96, v97, v98, v99, v100, v101, v102, v103, v104, v105, v106, v107, Ud, Ud, Ud, Ud, Ud, Ud, Ud, Ud, Ud, Ud, Ud, Ud, Ud, Ud, Ud, Ud, Ud, Ud, Ud, Ud, Ud, Ud, Ud, Ud, Ud, Ud, Ud, Ud, Ud, Ud, Ud, Ud, Ud, Ud, Ud]) rfl (fun _ => rfl) (fun u hu hF => ?_) (fun v107 => ?_)
  · have h31_ : v106 = (Pt c_b c_o) := hF.1
    clear hF
    refine doesG_un rfl ?_
    obtain rfl := h31_
    refine (does_fieldAddr (ev rfl) fa48_3).mono ?_; rintro _ _ ⟨rfl, rfl⟩
    exact ⟨rfl, Ext.refl _⟩
  refine RW_d (fun v108 => [(Pt c_b c_o), (Iv x), (Iv y), Ud, Ud, Ud, (Pt b16 0), (Pt b46 0), (Pt b55 0), (Pt b65 0), Ud, Ud, (.tuple #[(.agg #[(Fl r27), (Fl r29), (Fl r31)]), (.agg #[(Fl r33), (Fl r35), (Fl r37)]), (.agg #[(Fl r39), (Fl r41), (Fl r43)])]), (Pt c_b c_o), (.tuple #[(.agg #[(Fl r27), (Fl r29), (Fl r31)]), (.agg #[(Fl r33), (Fl r35), (Fl r37)]), (.agg #[(Fl r39), (Fl r41), (Fl r43)])]), (.agg #[(Fl r27), (Fl r29), (Fl r31)]), (.agg #[(Fl r33), (Fl r35), (Fl r37)]), (.agg #[(Fl r39), (Fl r41), (Fl r43)]), v93, v94, v95, v96, v97, v98, v99, v100, v101, v102, v103, v104, v105, v106, v107, v108, Ud, Ud, Ud, Ud, Ud, Ud, Ud, Ud, Ud, Ud, Ud, Ud, Ud, Ud, Ud, Ud, Ud, Ud, Ud, Ud, Ud, Ud, Ud, Ud, Ud, Ud, Ud, Ud, Ud, Ud, Ud, Ud, Ud, Ud]) rfl (fun _ => rfl) (fun u hu hF => ?_) (fun v108 => ?_)
  · have h32_ : v107 = (Pt c_b (c_o + 7)) := hF.1
    clear hF
    refine doesG_un rfl ?_
    obtain rfl := h32_
    refine (does_load (u := (Iv A_c.width)) (ev rfl) Try.isAgg2 (Cells.at ((hc_c.ext (Ext.gr X87 E90)).ext hu) 7 rfl)).mono ?_; rintro _ _ ⟨rfl, rfl⟩
    exact ⟨rfl, Ext.refl _⟩
  refine RW_d (fun v109 => [(Pt c_b c_o), (Iv x), (Iv y), Ud, Ud, Ud, (Pt b16 0), (Pt b46 0), (Pt b55 0), (Pt b65 0), Ud, Ud, (.tuple #[(.agg #[(Fl r27), (Fl r29), (Fl r31)]), (.agg #[(Fl r33), (Fl r35), (Fl r37)]), (.agg #[(Fl r39), (Fl r41), (Fl r43)])]), (Pt c_b c_o), (.tuple #[(.agg #[(Fl r27), (Fl r29), (Fl r31)]), (.agg #[(Fl r33), (Fl r35), (Fl r37)]), (.agg #[(Fl r39), (Fl r41), (Fl r43)])]), (.agg #[(Fl r27), (Fl r29), (Fl r31)]), (.agg #[(Fl r33), (Fl r35), (Fl r37)]), (.agg #[(Fl r39), (Fl r41), (Fl r43)]), v93, v94, v95, v96, v97, v98, v99, v100, v101, v102, v103, v104, v105, v106, v107, v108, v109, Ud, Ud, Ud, Ud, Ud, Ud, Ud, Ud, Ud, Ud, Ud, Ud, Ud, Ud, Ud, Ud, Ud, Ud, Ud, Ud, Ud, Ud, Ud, Ud, Ud, Ud, Ud, Ud, Ud, Ud, Ud, Ud, Ud]) rfl (fun _ => rfl) (fun u hu hF => ?_) (fun v109 => ?_)
  · have h33_ : v108 = (Iv A_c.width) := hF.1
    clear hF
    refine doesG_un rfl ?_
    obtain rfl := h33_
    refine (does_conv_if (k := .f32) Try.underlying2 Try.underlying24 (ev rfl)).mono ?_; rintro _ _ ⟨rfl, rfl⟩
    exact ⟨rfl, Ext.refl _⟩
  refine RW_d (fun v110 => [(Pt c_b c_o), (Iv x), (Iv y), Ud, Ud, Ud, (Pt b16 0), (Pt b46 0), (Pt b55 0), (Pt b65 0), Ud, Ud, (.tuple #[(.agg #[(Fl r27), (Fl r29), (Fl r31)]), (.agg #[(Fl r33), (Fl r35), (Fl r37)]), (.agg #[(Fl r39), (Fl r41), (Fl r43)])]), (Pt c_b c_o), (.tuple #[(.agg #[(Fl r27), (Fl r29), (Fl r31)]), (.agg #[(Fl r33), (Fl r35), (Fl r37)]), (.agg #[(Fl r39), (Fl r41), (Fl r43)])]), (.agg #[(Fl r27), (Fl r29), (Fl r31)]), (.agg #[(Fl r33), (Fl r35), (Fl r37)]), (.agg #[(Fl r39), (Fl r41), (Fl r43)]), v93, v94, v95, v96, v97, v98, v99, v100, v101, v102, v103, v104, v105, v106, v107, v108, v109, v110, Ud, Ud, Ud, Ud, Ud, Ud, Ud, Ud, Ud, Ud, Ud, Ud, Ud, Ud, Ud, Ud, Ud, Ud, Ud, Ud, Ud, Ud, Ud, Ud, Ud, Ud, Ud, Ud, Ud, Ud, Ud, Ud]) rfl (fun _ => rfl) (fun u hu hF => ?_) (fun v110 => ?_)
  · clear hF
    refine doesG_un rfl ?_
    refine (does_move (u := (Pt c_b c_o)) (ev rfl)).mono ?_; rintro _ _ ⟨rfl, rfl⟩
    exact ⟨rfl, Ext.refl _⟩
  refine RW_d (fun v111 => [(Pt c_b c_o), (Iv x), (Iv y), Ud, Ud, Ud, (Pt b16 0), (Pt b46 0), (Pt b55 0), (Pt b65 0), Ud, Ud, (.tuple #[(.agg #[(Fl r27), (Fl r29), (Fl r31)]), (.agg #[(Fl r33), (Fl r35), (Fl r37)]), (.agg #[(Fl r39), (Fl r41), (Fl r43)])]), (Pt c_b c_o), (.tuple #[(.agg #[(Fl r27), (Fl r29), (Fl r31)]), (.agg #[(Fl r33), (Fl r35), (Fl r37)]), (.agg #[(Fl r39), (Fl r41), (Fl r43)])]), (.agg #[(Fl r27), (Fl r29), (Fl r31)]), (.agg #[(Fl r33), (Fl r35), (Fl r37)]), (.agg #[(Fl r39), (Fl r41), (Fl r43)]), v93, v94, v95, v96, v97, v98, v99, v100, v101, v102, v103, v104, v105, v106, v107, v108, v109, v110, v111, Ud, Ud, Ud, Ud, Ud, Ud, Ud, Ud, Ud, Ud, Ud, Ud, Ud, Ud, Ud, Ud, Ud, Ud, Ud, Ud, Ud, Ud, Ud, Ud, Ud, Ud, Ud, Ud, Ud, Ud, Ud]) rfl (fun _ => rfl) (fun u hu hF => ?_) (fun v111 => ?_)
  · have h35_ : v110 = (Pt c_b c_o) := hF.1
    clear hF
    refine doesG_un rfl ?_
    obtain rfl := h35_
    refine (does_nilCheck (ev rfl)).mono ?_; rintro _ _ ⟨rfl, rfl⟩
    exact ⟨rfl, Ext.refl _⟩
  refine RW_d (fun v112 => [(Pt c_b c_o), (Iv x), (Iv y), Ud, Ud, Ud, (Pt b16 0), (Pt b46 0), (Pt b55 0), (Pt b65 0), Ud, Ud, (.tuple #[(.agg #[(Fl r27), (Fl r29), (Fl r31)]), (.agg #[(Fl r33), (Fl r35), (Fl r37)]), (.agg #[(Fl r39), (Fl r41), (Fl r43)])]), (Pt c_b c_o), (.tuple #[(.agg #[(Fl r27), (Fl r29), (Fl r31)]), (.agg #[(Fl r33), (Fl r35), (Fl r37)]), (.agg #[(Fl r39), (Fl r41), (Fl r43)])]), (.agg #[(Fl r27), (Fl r29), (Fl r31)]), (.agg #[(Fl r33), (Fl r35), (Fl r37)]), (.agg #[(Fl r39), (Fl r41), (Fl r43)]), v93, v94, v95, v96, v97, v98, v99, v100, v101, v102, v103, v104, v105, v106, v107, v108, v109, v110, v111, v112, Ud, Ud, Ud, Ud, Ud, Ud, Ud, Ud, Ud, Ud, Ud, Ud, Ud, Ud, Ud, Ud, Ud, Ud, Ud, Ud, Ud, Ud, Ud, Ud, Ud, Ud, Ud, Ud, Ud, Ud]) rfl (fun _ => rfl) (fun u hu hF => ?_) (fun v112 => ?_)
  · have h36_ : v111 = (Pt c_b c_o) := hF.1
    clear hF
    refine doesG_un rfl ?_
    obtain rfl := h36_
    refine (does_fieldAddr (ev rfl) fa48_4).mono ?_; rintro _ _ ⟨rfl, rfl⟩
    exact ⟨rfl, Ext.refl _⟩
  refine RW_d (fun v113 => [(Pt c_b c_o), (Iv x), (Iv y), Ud, Ud, Ud, (Pt b16 0), (Pt b46 0), (Pt b55 0), (Pt b65 0), Ud, Ud, (.tuple #[(.agg #[(Fl r27), (Fl r29), (Fl r31)]), (.agg #[(Fl r33), (Fl r35), (Fl r37)]), (.agg #[(Fl r39), (Fl r41), (Fl r43)])]), (Pt c_b c_o), (.tuple #[(.agg #[(Fl r27), (Fl r29), (Fl r31)]), (.agg #[(Fl r33), (Fl r35), (Fl r37)]), (.agg #[(Fl r39), (Fl r41), (Fl r43)])]), (.agg #[(Fl r27), (Fl r29), (Fl r31)]), (.agg #[(Fl r33), (Fl r35), (Fl r37)]), (.agg #[(Fl r39), (Fl r41), (Fl r43)]), v93, v94, v95, v96, v97, v98, v99, v100, v101, v102, v103, v104, v105, v106, v107, v108, v109, v110, v111, v112, v113, Ud, Ud, Ud, Ud, Ud, Ud, Ud, Ud, Ud, Ud, Ud, Ud, Ud, Ud, Ud, Ud, Ud, Ud, Ud, Ud, Ud, Ud, Ud, Ud, Ud, Ud, Ud, Ud, Ud]) rfl (fun _ => rfl) (fun u hu hF => ?_) (fun v113 => ?_)
  · have h37_ : v112 = (Pt c_b (c_o + 8)) := hF.1
    clear hF
    refine doesG_un rfl ?_
    obtain rfl := h37_
    refine (does_load (u := (Iv A_c.height)) (ev rfl) Try.isAgg2 (Cells.at ((hc_c.ext (Ext.gr X87 E90)).ext hu) 8 rfl)).mono ?_; rintro _ _ ⟨rfl, rfl⟩
    exact ⟨rfl, Ext.refl _⟩
  refine RW_d (fun v114 => [(Pt c_b c_o), (Iv x), (Iv y), Ud, Ud, Ud, (Pt b16 0), (Pt b46 0), (Pt b55 0), (Pt b65 0), Ud, Ud, (.tuple #[(.agg #[(Fl r27), (Fl r29), (Fl r31)]), (.agg #[(Fl r33), (Fl r35), (Fl r37)]), (.agg #[(Fl r39), (Fl r41), (Fl r43)])]), (Pt c_b c_o), (.tuple #[(.agg #[(Fl r27), (Fl r29), (Fl r31)]), (.agg #[(Fl r33), (Fl r35), (Fl r37)]), (.agg #[(Fl r39), (Fl r41), (Fl r43)])]), (.agg #[(Fl r27), (Fl r29), (Fl r31)]), (.agg #[(Fl r33), (Fl r35), (Fl r37)]), (.agg #[(Fl r39), (Fl r41), (Fl r43)]), v93, v94, v95, v96, v97, v98, v99, v100, v101, v102, v103, v104, v105, v106, v107, v108, v109, v110, v111, v112, v113, v114, Ud, Ud, Ud, Ud, Ud, Ud, Ud, Ud, Ud, Ud, Ud, Ud, Ud, Ud, Ud, Ud, Ud, Ud, Ud, Ud, Ud, Ud, Ud, Ud, Ud, Ud, Ud, Ud]) rfl (fun _ => rfl) (fun u hu hF => ?_) (fun v114 => ?_)
  · have h38_ : v113 = (Iv A_c.height) := hF.1
    clear hF
    refine doesG_un rfl ?_
    obtain rfl := h38_
    refine (does_conv_if (k := .f32) Try.underlying2 Try.underlying24 (ev rfl)).mono ?_; rintro _ _ ⟨rfl, rfl⟩
    exact ⟨rfl, Ext.refl _⟩
  refine RW_d (fun v115 => [(Pt c_b c_o), (Iv x), (Iv y), Ud, Ud, Ud, (Pt b16 0), (Pt b46 0), (Pt b55 0), (Pt b65 0), Ud, Ud, (.tuple #[(.agg #[(Fl r27), (Fl r29), (Fl r31)]), (.agg #[(Fl r33), (Fl r35), (Fl r37)]), (.agg #[(Fl r39), (Fl r41), (Fl r43)])]), (Pt c_b c_o), (.tuple #[(.agg #[(Fl r27), (Fl r29), (Fl r31)]), (.agg #[(Fl r33), (Fl r35), (Fl r37)]), (.agg #[(Fl r39), (Fl r41), (Fl r43)])]), (.agg #[(Fl r27), (Fl r29), (Fl r31)]), (.agg #[(Fl r33), (Fl r35), (Fl r37)]), (.agg #[(Fl r39), (Fl r41), (Fl r43)]), v93, v94, v95, v96, v97, v98, v99, v100, v101, v102, v103, v104, v105, v106, v107, v108, v109, v110, v111, v112, v113, v114, v115, Ud, Ud, Ud, Ud, Ud, Ud, Ud, Ud, Ud, Ud, Ud, Ud, Ud, Ud, Ud, Ud, Ud, Ud, Ud, Ud, Ud, Ud, Ud, Ud, Ud, Ud, Ud]) rfl (fun _ => rfl) (fun u hu hF => ?_) (fun v115 => ?_)
  · have h34_ : v109 = (Fl (FloatKind.f32.nearest A_c.width)) := hF.1
    have h39_ : v114 = (Fl (FloatKind.f32.nearest A_c.height)) := hF.2.1
    clear hF
    refine doesG_un rfl ?_
    obtain rfl := h34_
    obtain rfl := h39_
    refine (does_float (.inr (.inr (.inr rfl))) (ev rfl) (ev rfl)).mono ?_; rintro _ _ ⟨r, rfl, hr, hx⟩
    exact ⟨⟨r, rfl, (by simp only [hr])⟩, hx⟩
  refine RW_d (fun v116 => [(Pt c_b c_o), (Iv x), (Iv y), Ud, Ud, Ud, (Pt b16 0), (Pt b46 0), (Pt b55 0), (Pt b65 0), Ud, Ud, (.tuple #[(.agg #[(Fl r27), (Fl r29), (Fl r31)]), (.agg #[(Fl r33), (Fl r35), (Fl r37)]), (.agg #[(Fl r39), (Fl r41), (Fl r43)])]), (Pt c_b c_o), (.tuple #[(.agg #[(Fl r27), (Fl r29), (Fl r31)]), (.agg #[(Fl r33), (Fl r35), (Fl r37)]), (.agg #[(Fl r39), (Fl r41), (Fl r43)])]), (.agg #[(Fl r27), (Fl r29), (Fl r31)]), (.agg #[(Fl r33), (Fl r35), (Fl r37)]), (.agg #[(Fl r39), (Fl r41), (Fl r43)]), v93, v94, v95, v96, v97, v98, v99, v100, v101, v102, v103, v104, v105, v106, v107, v108, v109, v110, v111, v112, v113, v114, v115, v116, Ud, Ud, Ud, Ud, Ud, Ud, Ud, Ud, Ud, Ud, Ud, Ud, Ud, Ud, Ud, Ud, Ud, Ud, Ud, Ud, Ud, Ud, Ud, Ud, Ud, Ud]) rfl (fun _ => rfl) (fun u hu hF => ?_) (fun v116 => ?_)
  · have h29_ : ∃ r_1 : Nat, v104 = (Fl r_1) ∧ cf .f32 r_1 = fop .mul .f32 (fop .sub .f32 (shareF x A_c.width) (cf .f32 1065353216)) (cf .f32 r13) := hF.1
    have h40_ : ∃ r_1 : Nat, v115 = (Fl r_1) ∧ cf .f32 r_1 = fop .quo .f32 (cf .f32 (FloatKind.f32.nearest A_c.width)) (cf .f32 (FloatKind.f32.nearest A_c.height)) := hF.2.1
    clear hF
    refine doesG_un rfl ?_
    obtain ⟨r29_1, rfl, h29_2⟩ := h29_
    obtain ⟨r40_1, rfl, h40_2⟩ := h40_
    refine (does_float (.inr (.inr (.inl rfl))) (ev rfl) (ev rfl)).mono ?_; rintro _ _ ⟨r, rfl, hr, hx⟩
    exact ⟨⟨r, rfl, (by simp only [hr, h29_2, h40_2])⟩, hx⟩
  refine RW_fin ?_; intro w117 E118 hP119
  obtain ⟨⟨⟨⟨⟨⟨⟨⟨⟨⟨⟨⟨⟨⟨⟨⟨⟨⟨⟨⟨⟨⟨⟨⟨-, -⟩, -⟩, -⟩, -⟩, -⟩, -⟩, -⟩, -⟩, -⟩, -⟩, -⟩, -⟩, -⟩, -⟩, -⟩, -⟩, -⟩, -⟩, -⟩, -⟩, -⟩, -⟩, -⟩, q120⟩ := hP119
  have X121 := Ext.gr X92 E118
  have q120 : ∃ r_1 : Nat, v116 = (Fl r_1) ∧ cf .f32 r_1 = fop .mul .f32 (fop .mul .f32 (fop .sub .f32 (shareF x A_c.width) (cf .f32 1065353216)) (cf .f32 r13)) (fop .quo .f32 (cf .f32 (FloatKind.f32.nearest A_c.width)) (cf .f32 (FloatKind.f32.nearest A_c.height))) := q120
  obtain ⟨r122, rfl, h123⟩ := q120
  show wpList _ _ _ _ (fr [(Pt c_b c_o), (Iv x), (Iv y), Ud, Ud, Ud, (Pt b16 0), (Pt b46 0), (Pt b55 0), (Pt b65 0), Ud, Ud, (.tuple #[(.agg #[(Fl r27), (Fl r29), (Fl r31)]), (.agg #[(Fl r33), (Fl r35), (Fl r37)]), (.agg #[(Fl r39), (Fl r41), (Fl r43)])]), (Pt c_b c_o), (.tuple #[(.agg #[(Fl r27), (Fl r29), (Fl r31)]), (.agg #[(Fl r33), (Fl r35), (Fl r37)]), (.agg #[(Fl r39), (Fl r41), (Fl r43)])]), (.agg #[(Fl r27), (Fl r29), (Fl r31)]), (.agg #[(Fl r33), (Fl r35), (Fl r37)]), (.agg #[(Fl r39), (Fl r41), (Fl r43)]), v93, v94, v95, v96, v97, v98, v99, v100, v101, v102, v103, v104, v105, v106, v107, v108, v109, v110, v111, v112, v113, v114, v115, (Fl r122), Ud, Ud, Ud, Ud, Ud, Ud, Ud, Ud, Ud, Ud, Ud, Ud, Ud, Ud, Ud, Ud, Ud, Ud, Ud, Ud, Ud, Ud, Ud, Ud, Ud, Ud]) _
  refine q_is (l' := [(Pt c_b c_o), (Iv x), (Iv y), Ud, Ud, Ud, (Pt b16 0), (Pt b46 0), (Pt b55 0), (Pt b65 0), (Fl r122), Ud, (.tuple #[(.agg #[(Fl r27), (Fl r29), (Fl r31)]), (.agg #[(Fl r33), (Fl r35), (Fl r37)]), (.agg #[(Fl r39), (Fl r41), (Fl r43)])]), (Pt c_b c_o), (.tuple #[(.agg #[(Fl r27), (Fl r29), (Fl r31)]), (.agg #[(Fl r33), (Fl r35), (Fl r37)]), (.agg #[(Fl r39), (Fl r41), (Fl r43)])]), (.agg #[(Fl r27), (Fl r29), (Fl r31)]), (.agg #[(Fl r33), (Fl r35), (Fl r37)]), (.agg #[(Fl r39), (Fl r41), (Fl r43)]), v93, v94, v95, v96, v97, v98, v99, v100, v101, v102, v103, v104, v105, v106, v107, v108, v109, v110, v111, v112, v113, v114, v115, (Fl r122), Ud, Ud, Ud, Ud, Ud, Ud, Ud, Ud, Ud, Ud, Ud, Ud, Ud, Ud, Ud, Ud, Ud, Ud, Ud, Ud, Ud, Ud, Ud, Ud, Ud, Ud]) rfl rfl (does_assign (u := (Fl r122)) (ev rfl)) rfl ?_
  refine wpList_nil (hK88 _ _ ?_)
  refine wp_seq_k fun K124 hK124 => ?_
  refine region_draw (
    [Fact.pure [] (fun v => v = (Iv y)),
    Fact.pure [] (fun v => v = (Pt c_b c_o)),
    Fact.pure [43] (fun v => v = (Pt c_b c_o)),
    Fact.pure [44] (fun v => v = (Pt c_b (c_o + 8))),
    Fact.pure [45] (fun v => v = (Iv A_c.height)),
    Fact.pure [42, 46] (fun v => ∃ r_1 : Nat, v = (Fl r_1) ∧ cf .f32 r_1 = shareF y A_c.height),
    Fact.pure [47] (fun v => ∃ r_1 : Nat, v = (Fl r_1) ∧ cf .f32 r_1 = fop .sub .f32 (cf .f32 1065353216) (shareF y A_c.height)),
    Fact.pure [] (fun v => v = (Pt c_b c_o)),
    Fact.pure [49] (fun v => v = (Pt c_b c_o)),
    Fact.pure [50] (fun v => v = (Pt c_b (c_o + 6))),
    Fact.pure [51] (fun v => v = (Fl r13)),
    Fact.pure [48, 52] (fun v => ∃ r_1 : Nat, v = (Fl r_1) ∧ cf .f32 r_1 = fop .mul .f32 (fop .sub .f32 (cf .f32 1065353216) (shareF y A_c.height)) (cf .f32 r13))]) mixed (by kernel_rfl) (by intro _ _ d _ _ h; cases d <;> exact h) ?_
  obtain ⟨w125, hw127⟩ : ∃ w', w' = World.drew w117 := ⟨_, rfl⟩; rw [← hw127]; have E126 : Ext w117 w125 := by rw [hw127]; exact Ext.draw _
  clear hw127
  have X128 := Ext.gr X121 E126
  refine RW_d (fun v129 => [(Pt c_b c_o), (Iv x), (Iv y), Ud, Ud, Ud, (Pt b16 0), (Pt b46 0), (Pt b55 0), (Pt b65 0), (Fl r122), Ud, (.tuple #[(.agg #[(Fl r27), (Fl r29), (Fl r31)]), (.agg #[(Fl r33), (Fl r35), (Fl r37)]), (.agg #[(Fl r39), (Fl r41), (Fl r43)])]), (Pt c_b c_o), (.tuple #[(.agg #[(Fl r27), (Fl r29), (Fl r31)]), (.agg #[(Fl r33), (Fl r35), (Fl r37)]), (.agg #[(Fl r39), (Fl r41), (Fl r43)])]), (.agg #[(Fl r27), (Fl r29), (Fl r31)]), (.agg #[(Fl r33), (Fl r35), (Fl r37)]), (.agg #[(Fl r39), (Fl r41), (Fl r43)]), v93, v94, v95, v96, v97, v98, v99, v100, v101, v102, v103, v104, v105, v106, v107, v108, v109, v110, v111, v112, v113, v114, v115, (Fl r122), v129, Ud, Ud, Ud, Ud, Ud, Ud, Ud, Ud, Ud, Ud, Ud, Ud, Ud, Ud, Ud, Ud, Ud, Ud, Ud, Ud, Ud, Ud, Ud, Ud, Ud]) rfl (fun _ => rfl) (fun u hu hF => ?_) (fun v129 => ?_)
  · clear hF
    refine doesG_un rfl ?_
    refine (does_move (u := (Iv y)) (ev rfl)).mono ?_; rintro _ _ ⟨rfl, rfl⟩
    exact ⟨rfl, Ext.refl _⟩
  refine RW_d (fun v130 => [(Pt c_b c_o), (Iv x), (Iv y), Ud, Ud, Ud, (Pt b16 0), (Pt b46 0), (Pt b55 0), (Pt b65 0), (Fl r122), Ud, (.tuple #[(.agg #[(Fl r27), (Fl r29), (Fl r31)]), (.agg #[(Fl r33), (Fl r35), (Fl r37)]), (.agg #[(Fl r39), (Fl r41), (Fl r43)])]), (Pt c_b c_o), (.tuple #[(.agg #[(Fl r27), (Fl r29), (Fl r31)]), (.agg #[(Fl r33), (Fl r35), (Fl r37)]), (.agg #[(Fl r39), (Fl r41), (Fl r43)])]), (.agg #[(Fl r27), (Fl r29), (Fl r31)]), (.agg #[(Fl r33), (Fl r35), (Fl r37)]), (.agg #[(Fl r39), (Fl r41), (Fl r43)]), v93, v94, v95, v96, v97, v98, v99, v100, v101, v102, v103, v104, v105, v106, v107, v108, v109, v110, v111, v112, v113, v114, v115, (Fl r122), v129, v130, Ud, Ud, Ud, Ud, Ud, Ud, Ud, Ud, Ud, Ud, Ud, Ud, Ud, Ud, Ud, Ud, Ud, Ud, Ud, Ud, Ud, Ud, Ud, Ud]) rfl (fun _ => rfl) (fun u hu hF => ?_) (fun v130 => ?_)
  · clear hF
    refine doesG_un rfl ?_
    refine (does_move (u := (Pt c_b c_o)) (ev rfl)).mono ?_; rintro _ _ ⟨rfl, rfl⟩
    exact ⟨rfl, Ext.refl _⟩
  refine RW_d (fun v131 => [(Pt c_b c_o), (Iv x), (Iv y), Ud, Ud, Ud, (Pt b16 0), (Pt b46 0), (Pt b55 0), (Pt b65 0), (Fl r122), Ud, (.tuple #[(.agg #[(Fl r27), (Fl r29), (Fl r31)]), (.agg #[(Fl r33), (Fl r35), (Fl r37)]), (.agg #[(Fl r39), (Fl r41), (Fl r43)])]), (Pt c_b c_o), (.tuple #[(.agg #[(Fl r27), (Fl r29), (Fl r31)]), (.agg #[(Fl r33), (Fl r35), (Fl r37)]), (.agg #[(Fl r39), (Fl r41), (Fl r43)])]), (.agg #[(Fl r27), (Fl r29), (Fl r31)]), (.agg #[(Fl r33), (Fl r35), (Fl r37)]), (.agg #[(Fl r39), (Fl r41), (Fl r43)]), v93, v94, v95, v96, v97, v98, v99, v100, v101, v102, v103, v104, v105, v106, v107, v108, v109, v110, v111, v112, v113, v114, v115, (Fl r122), v129, v130, v131, Ud, Ud, Ud, Ud, Ud, Ud, Ud, Ud, Ud, Ud, Ud, Ud, Ud, Ud, Ud, Ud, Ud, Ud, Ud, Ud, Ud, Ud, Ud]) rfl (fun _ => rfl) (fun u hu hF => ?_) (fun v131 => ?_)
  · have h43_ : v130 = (Pt c_b c_o) := hF.1
    clear hF
    refine doesG_un rfl ?_
    obtain rfl := h43_
    refine (does_nilCheck (ev rfl)).mono ?_; rintro _ _ ⟨rfl, rfl⟩
    exact ⟨rfl, Ext.refl _⟩
  refine RW_d (fun v132 => [(Pt c_b c_o), (Iv x), (Iv y), Ud, Ud, Ud, (Pt b16 0), (Pt b46 0), (Pt b55 0), (Pt b65 0), (Fl r122), Ud, (.tuple #[(.agg #[(Fl r27), (Fl r29), (Fl r31)]), (.agg #[(Fl r33), (Fl r35), (Fl r37)]), (.agg #[(Fl r39), (Fl r41), (Fl r43)])]), (Pt c_b c_o), (.tuple #[(.agg #[(Fl r27), (Fl r29), (Fl r31)]), (.agg #[(Fl r33), (Fl r35), (Fl r37)]), (.agg #[(Fl r39), (Fl r41), (Fl r43)])]), (.agg #[(Fl r27), (Fl r29), (Fl r31)]), (.agg #[(Fl r33), (Fl r35), (Fl r37)]), (.agg #[(Fl r39), (Fl r41), (Fl r43)]), v93, v94, v95, v96, v97, v98, v99, v100, v101, v102, v103, v104, v105, v106, v107, v108, v109, v110, v111, v112, v113, v114, v115, (Fl r122), v129, v130, v131, v132, Ud, Ud, Ud, Ud, Ud, Ud, Ud, Ud, Ud, Ud, Ud, Ud, Ud, Ud, Ud, Ud, Ud, Ud, Ud, Ud, Ud, Ud]) rfl (fun _ => rfl) (fun u hu hF => ?_) (fun v132 => ?_)
  · have h44_ : v131 = (Pt c_b c_o) := hF.1
    clear hF
    refine doesG_un rfl ?_
    obtain rfl := h44_
    refine (does_fieldAddr (ev rfl) fa48_4).mono ?_; rintro _ _ ⟨rfl, rfl⟩
    exact ⟨rfl, Ext.refl _⟩
  refine RW_d (fun v133 => [(Pt c_b c_o), (Iv x), (Iv y), Ud, Ud, Ud, (Pt b16 0), (Pt b46 0), (Pt b55 0), (Pt b65 0), (Fl r122), Ud, (.tuple #[(.agg #[(Fl r27), (Fl r29), (Fl r31)]), (.agg #[(Fl r33), (Fl r35), (Fl r37)]), (.agg #[(Fl r39), (Fl r41), (Fl r43)])]), (Pt c_b c_o), (.tuple #[(.agg #[(Fl r27), (Fl r29), (Fl r31)]), (.agg #[(Fl r33), (Fl r35), (Fl r37)]), (.agg #[(Fl r39), (Fl r41), (Fl r43)])]), (.agg #[(Fl r27), (Fl r29), (Fl r31)]), (.agg #[(Fl r33), (Fl r35), (Fl r37)]), (.agg #[(Fl r39), (Fl r41), (Fl r43)]), v93, v94, v95, v96, v97, v98, v99, v100, v101, v102, v103, v104, v105, v106, v107, v108, v109, v110, v111, v112, v113, v114, v115, (Fl r122), v129, v130, v131, v132, v133, Ud, Ud, Ud, Ud, Ud, Ud, Ud, Ud, Ud, Ud, Ud, Ud, Ud, Ud, Ud, Ud, Ud, Ud, Ud, Ud, Ud]) rfl (fun _ => rfl) (fun u hu hF => ?_) (fun v133 => ?_)
  · have h45_ : v132 = (Pt c_b (c_o + 8)) := hF.1
    clear hF
    refine doesG_un rfl ?_
    obtain rfl := h45_
    refine (does_load (u := (Iv A_c.height)) (ev rfl) Try.isAgg2 (Cells.at ((hc_c.ext (Ext.gr X121 E126)).ext hu) 8 rfl)).mono ?_; rintro _ _ ⟨rfl, rfl⟩
    exact ⟨rfl, Ext.refl _⟩
  refine RW_d (fun v134 => [(Pt c_b c_o), (Iv x), (Iv y), Ud, Ud, Ud, (Pt b16 0), (Pt b46 0), (Pt b55 0), (Pt b65 0), (Fl r122), Ud, (.tuple #[(.agg #[(Fl r27), (Fl r29), (Fl r31)]), (.agg #[(Fl r33), (Fl r35), (Fl r37)]), (.agg #[(Fl r39), (Fl r41), (Fl r43)])]), (Pt c_b c_o), (.tuple #[(.agg #[(Fl r27), (Fl r29), (Fl r31)]), (.agg #[(Fl r33), (Fl r35), (Fl r37)]), (.agg #[(Fl r39), (Fl r41), (Fl r43)])]), (.agg #[(Fl r27), (Fl r29), (Fl r31)]), (.agg #[(Fl r33), (Fl r35), (Fl r37)]), (.agg #[(Fl r39), (Fl r41), (Fl r43)]), v93, v94, v95, v96, v97, v98, v99, v100, v101, v102, v103, v104, v105, v106, v107, v108, v109, v110, v111, v112, v113, v114, v115, (Fl r122), v129, v130, v131, v132, v133, v134, Ud, Ud, Ud, Ud, Ud, Ud, Ud, Ud, Ud, Ud, Ud, Ud, Ud, Ud, Ud, Ud, Ud, Ud, Ud, Ud]) rfl (fun _ => rfl) (fun u hu hF => ?_) (fun v134 => ?_)
  · have h42_ : v129 = (Iv y) := hF.1
    have h46_ : v133 = (Iv A_c.height) := hF.2.1
    clear hF
    refine doesG_un rfl ?_
    obtain rfl := h42_
    obtain rfl := h46_
    refine (does_call (args := #[(Iv y), (Iv A_c.height)]) cal106 (evs rfl) (c_impl_share y A_c.height _)).mono ?_; rintro v u' ⟨hx, ⟨rn1, hv, k0⟩⟩
    exact ⟨⟨rn1, hv, (by simp only [k0])⟩, hx⟩
  refine RW_d (fun v135 => [(Pt c_b c_o), (Iv x), (Iv y), Ud, Ud, Ud, (Pt b16 0), (Pt b46 0), (Pt b55 0), (Pt b65 0), (Fl r122), Ud, (.tuple #[(.agg #[(Fl r27), (Fl r29), (Fl r31)]), (.agg #[(Fl r33), (Fl r35), (Fl r37)]), (.agg #[(Fl r39), (Fl r41), (Fl r43)])]), (Pt c_b c_o), (.tuple #[(.agg #[(Fl r27), (Fl r29), (Fl r31)]), (.agg #[(Fl r33), (Fl r35), (Fl r37)]), (.agg #[(Fl r39), (Fl r41), (Fl r43)])]), (.agg #[(Fl r27), (Fl r29), (Fl r31)]), (.agg #[(Fl r33), (Fl r35), (Fl r37)]), (.agg #[(Fl r39), (Fl r41), (Fl r43)]), v93, v94, v95, v96, v97, v98, v99, v100, v101, v102, v103, v104, v105, v106, v107, v108, v109, v110, v111, v112, v113, v114, v115, (Fl r122), v129, v130, v131, v132, v133, v134, v135, Ud, Ud, Ud, Ud, Ud, Ud, Ud, Ud, Ud, Ud, Ud, Ud, Ud, Ud, Ud, Ud, Ud, Ud, Ud]) rfl (fun _ => rfl) (fun u hu hF => ?_) (fun v135 => ?_)
  · have h47_ : ∃ r_1 : Nat, v134 = (Fl r_1) ∧ cf .f32 r_1 = shareF y A_c.height := hF.1
    clear hF
    refine doesG_un rfl ?_
    obtain ⟨r47_1, rfl, h47_2⟩ := h47_
    refine (does_float (.inr (.inl rfl)) (ev rfl) (ev rfl)).mono ?_; rintro _ _ ⟨r, rfl, hr, hx⟩
    exact ⟨⟨r, rfl, (by simp only [hr, h47_2])⟩, hx⟩
  refine RW_d (fun v136 => [(Pt c_b c_o), (Iv x), (Iv y), Ud, Ud, Ud, (Pt b16 0), (Pt b46 0), (Pt b55 0), (Pt b65 0), (Fl r122), Ud, (.tuple #[(.agg #[(Fl r27), (Fl r29), (Fl r31)]), (.agg #[(Fl r33), (Fl r35), (Fl r37)]), (.agg #[(Fl r39), (Fl r41), (Fl r43)])]), (Pt c_b c_o), (.tuple #[(.agg #[(Fl r27), (Fl r29), (Fl r31)]), (.agg #[(Fl r33), (Fl r35), (Fl r37)]), (.agg #[(Fl r39), (Fl r41), (Fl r43)])]), (.agg #[(Fl r27), (Fl r29), (Fl r31)]), (.agg #[(Fl r33), (Fl r35), (Fl r37)]), (.agg #[(Fl r39), (Fl r41), (Fl r43)]), v93, v94, v95, v96, v97, v98, v99, v100, v101, v102, v103, v104, v105, v106, v107, v108, v109, v110, v111, v112, v113, v114, v115, (Fl r122), v129, v130, v131, v132, v133, v134, v135, v136, Ud, Ud, Ud, Ud, Ud, Ud, Ud, Ud, Ud, Ud, Ud, Ud, Ud, Ud, Ud, Ud, Ud, Ud]) rfl (fun _ => rfl) (fun u hu hF => ?_) (fun v136 => ?_)
  · clear hF
    refine doesG_un rfl ?_
    refine (does_move (u := (Pt c_b c_o)) (ev rfl)).mono ?_; rintro _ _ ⟨rfl, rfl⟩
    exact ⟨rfl, Ext.refl _⟩
  refine RW_d (fun v137 => [(Pt c_b c_o), (Iv x), (Iv y), Ud, Ud, Ud, (Pt b16 0), (Pt b46 0), (Pt b55 0), (Pt b65 0), (Fl r122), Ud, (.tuple #[(.agg #[(Fl r27), (Fl r29), (Fl r31)]), (.agg #[(Fl r33), (Fl r35), (Fl r37)]), (.agg #[(Fl r39), (Fl r41), (Fl r43)])]), (Pt c_b c_o), (.tuple #[(.agg #[(Fl r27), (Fl r29), (Fl r31)]), (.agg #[(Fl r33), (Fl r35), (Fl r37)]), (.agg #[(Fl r39), (Fl r41), (Fl r43)])]), (.agg #[(Fl r27), (Fl r29), (Fl r31)]), (.agg #[(Fl r33), (Fl r35), (Fl r37)]), (.agg #[(Fl r39), (Fl r41), (Fl r43)]), v93, v94, v95, v96, v97, v98, v99, v100, v101, v102, v103, v104, v105, v106, v107, v108, v109, v110, v111, v112, v113, v114, v115, (Fl r122), v129, v130, v131, v132, v133, v134, v135, v136, v137, Ud, Ud, Ud, Ud, Ud, Ud, Ud, Ud, Ud, Ud, Ud, Ud, Ud, Ud, Ud, Ud, Ud]) rfl (fun _ => rfl) (fun u hu hF => ?_) (fun v137 => ?_)
  · have h49_ : v136 = (Pt c_b c_o) := hF.1
    clear hF
    refine doesG_un rfl ?_
    obtain rfl := h49_
    refine (does_nilCheck (ev rfl)).mono ?_; rintro _ _ ⟨rfl, rfl⟩
    exact ⟨rfl, Ext.refl _⟩
  refine RW_d (fun v138 => [(Pt c_b c_o), (Iv x), (Iv y), Ud, Ud, Ud, (Pt b16 0), (Pt b46 0), (Pt b55 0), (Pt b65 0), (Fl r122), Ud, (.tuple #[(.agg #[(Fl r27), (Fl r29), (Fl r31)]), (.agg #[(Fl r33), (Fl r35), (Fl r37)]), (.agg #[(Fl r39), (Fl r41), (Fl r43)])]), (Pt c_b c_o), (.tuple #[(.agg #[(Fl r27), (Fl r29), (Fl r31)]), (.agg #[(Fl r33), (Fl r35), (Fl r37)]), (.agg #[(Fl r39), (Fl r41), (Fl r43)])]), (.agg #[(Fl r27), (Fl r29), (Fl r31)]), (.agg #[(Fl r33), (Fl r35), (Fl r37)]), (.agg #[(Fl r39), (Fl r41), (Fl r43)]), v93, v94, v95, v96, v97, v98, v99, v100, v101, v102, v103, v104, v105, v106, v107, v108, v109, v110, v111, v112, v113, v114, v115, (Fl r122), v129, v130, v131, v132, v133, v134, v135, v136, v137, v138, Ud, Ud, Ud, Ud, Ud, Ud, Ud, Ud, Ud, Ud, Ud, Ud, Ud, Ud, Ud, Ud]) rfl (fun _ => rfl) (fun u hu hF => ?_) (fun v138 => ?_)
  · have h50_ : v137 = (Pt c_b c_o) := hF.1
    clear hF
    refine doesG_un rfl ?_
    obtain rfl := h50_
    refine (does_fieldAddr (ev rfl) fa48_2).mono ?_; rintro _ _ ⟨rfl, rfl⟩
    exact ⟨rfl, Ext.refl _⟩
  refine RW_d (fun v139 => [(Pt c_b c_o), (Iv x), (Iv y), Ud, Ud, Ud, (Pt b16 0), (Pt b46 0), (Pt b55 0), (Pt b65 0), (Fl r122), Ud, (.tuple #[(.agg #[(Fl r27), (Fl r29), (Fl r31)]), (.agg #[(Fl r33), (Fl r35), (Fl r37)]), (.agg #[(Fl r39), (Fl r41), (Fl r43)])]), (Pt c_b c_o), (.tuple #[(.agg #[(Fl r27), (Fl r29), (Fl r31)]), (.agg #[(Fl r33), (Fl r35), (Fl r37)]), (.agg #[(Fl r39), (Fl r41), (Fl r43)])]), (.agg #[(Fl r27), (Fl r29), (Fl r31)]), (.agg #[(Fl r33), (Fl r35), (Fl r37)]), (.agg #[(Fl r39), (Fl r41), (Fl r43)]), v93, v94, v95, v96, v97, v98, v99, v100, v101, v102, v103, v104, v105, v106, v107, v108, v109, v110, v111, v112, v113, v114, v115, (Fl r122), v129, v130, v131, v132, v133, v134, v135, v136, v137, v138, v139, Ud, Ud, Ud, Ud, Ud, Ud, Ud, Ud, Ud, Ud, Ud, Ud, Ud, Ud, Ud]) rfl (fun _ => rfl) (fun u hu hF => ?_) (fun v139 => ?_)
  · have h51_ : v138 = (Pt c_b (c_o + 6)) := hF.1
    clear hF
    refine doesG_un rfl ?_
    obtain rfl := h51_
    refine (does_load (u := (Fl r13)) (ev rfl) Try.isAgg24 (Cells.at ((hc_c.ext (Ext.gr X121 E126)).ext hu) 6 rfl)).mono ?_; rintro _ _ ⟨rfl, rfl⟩
    exact ⟨rfl, Ext.refl _⟩
  refine RW_d (fun v140 => [(Pt c_b c_o), (Iv x), (Iv y), Ud, Ud, Ud, (Pt b16 0), (Pt b46 0), (Pt b55 0), (Pt b65 0), (Fl r122), Ud, (.tuple #[(.agg #[(Fl r27), (Fl r29), (Fl r31)]), (.agg #[(Fl r33), (Fl r35), (Fl r37)]), (.agg #[(Fl r39), (Fl r41), (Fl r43)])]), (Pt c_b c_o), (.tuple #[(.agg #[(Fl r27), (Fl r29), (Fl r31)]), (.agg #[(Fl r33), (Fl r35), (Fl r37)]), (.agg #[(Fl r39), (Fl r41), (Fl r43)])]), (.agg #[(Fl r27), (Fl r29), (Fl r31)]), (.agg #[(Fl r33), (Fl r35), (Fl r37)]), (.agg #[(Fl r39), (Fl r41), (Fl r43)]), v93, v94, v95, v96, v97, v98, v99, v100, v101, v102, v103, v104, v105, v106, v107, v108, v109, v110, v111, v112, v113, v114, v115, (Fl r122), v129, v130, v131, v132, v133, v134, v135, v136, v137, v138, v139, v140, Ud, Ud, Ud, Ud, Ud, Ud, Ud, Ud, Ud, Ud, Ud, Ud, Ud, Ud]) rfl (fun _ => rfl) (fun u hu hF => ?_) (fun v140 => ?_)
  · have h48_ : ∃ r_1 : Nat, v135 = (Fl r_1) ∧ cf .f32 r_1 = fop .sub .f32 (cf .f32 1065353216) (shareF y A_c.height) := hF.1
    have h52_ : v139 = (Fl r13) := hF.2.1
    clear hF
    refine doesG_un rfl ?_
    obtain ⟨r48_1, rfl, h48_2⟩ := h48_
    obtain rfl := h52_
    refine (does_float (.inr (.inr (.inl rfl))) (ev rfl) (ev rfl)).mono ?_; rintro _ _ ⟨r, rfl, hr, hx⟩
    exact ⟨⟨r, rfl, (by simp only [hr, h48_2])⟩, hx⟩
  refine RW_fin ?_; intro w141 E142 hP143
  obtain ⟨⟨⟨⟨⟨⟨⟨⟨⟨⟨⟨⟨-, -⟩, -⟩, -⟩, -⟩, -⟩, -⟩, -⟩, -⟩, -⟩, -⟩, -⟩, q144⟩ := hP143
  have X145 := Ext.gr X128 E142
  have q144 : ∃ r_1 : Nat, v140 = (Fl r_1) ∧ cf .f32 r_1 = fop .mul .f32 (fop .sub .f32 (cf .f32 1065353216) (shareF y A_c.height)) (cf .f32 r13) := q144
  obtain ⟨r146, rfl, h147⟩ := q144
  show wpList _ _ _ _ (fr [(Pt c_b c_o), (Iv x), (Iv y), Ud, Ud, Ud, (Pt b16 0), (Pt b46 0), (Pt b55 0), (Pt b65 0), (Fl r122), Ud, (.tuple #[(.agg #[(Fl r27), (Fl r29), (Fl r31)]), (.agg #[(Fl r33), (Fl r35), (Fl r37)]), (.agg #[(Fl r39), (Fl r41), (Fl r43)])]), (Pt c_b c_o), (.tuple #[(.agg #[(Fl r27), (Fl r29), (Fl r31)]), (.agg #[(Fl r33), (Fl r35), (Fl r37)]), (.agg #[(Fl r39), (Fl r41), (Fl r43)])]), (.agg #[(Fl r27), (Fl r29), (Fl r31)]), (.agg #[(Fl r33), (Fl r35), (Fl r37)]), (.agg #[(Fl r39), (Fl r41), (Fl r43)]), v93, v94, v95, v96, v97, v98, v99, v100, v101, v102, v103, v104, v105, v106, v107, v108, v109, v110, v111, v112, v113, v114, v115, (Fl r122), v129, v130, v131, v132, v133, v134, v135, v136, v137, v138, v139, (Fl r146), Ud, Ud, Ud, Ud, Ud, Ud, Ud, Ud, Ud, Ud, Ud, Ud, Ud, Ud]) _
  refine q_is (l' := [(Pt c_b c_o), (Iv x), (Iv y), Ud, Ud, Ud, (Pt b16 0), (Pt b46 0), (Pt b55 0), (Pt b65 0), (Fl r122), (Fl r146), (.tuple #[(.agg #[(Fl r27), (Fl r29), (Fl r31)]), (.agg #[(Fl r33), (Fl r35), (Fl r37)]), (.agg #[(Fl r39), (Fl r41), (Fl r43)])]), (Pt c_b c_o), (.tuple #[(.agg #[(Fl r27), (Fl r29), (Fl r31)]), (.agg #[(Fl r33), (Fl r35), (Fl r37)]), (.agg #[(Fl r39), (Fl r41), (Fl r43)])]), (.agg #[(Fl r27), (Fl r29), (Fl r31)]), (.agg #[(Fl r33), (Fl r35), (Fl r37)]), (.agg #[(Fl r39), (Fl r41), (Fl r43)]), v93, v94, v95, v96, v97, v98, v99, v100, v101, v102, v103, v104, v105, v106, v107, v108, v109, v110, v111, v112, v113, v114, v115, (Fl r122), v129, v130, v131, v132, v133, v134, v135, v136, v137, v138, v139, (Fl r146), Ud, Ud, Ud, Ud, Ud, Ud, Ud, Ud, Ud, Ud, Ud, Ud, Ud, Ud]) rfl rfl (does_assign (u := (Fl r146)) (ev rfl)) rfl ?_
  refine wpList_nil (hK124 _ _ ?_)
  refine wp_seq_k fun K148 hK148 => ?_
  refine region_draw (
    [Fact.pure [] (fun v => v = (Pt c_b c_o)),
    Fact.pure [54] (fun v => v = (Pt c_b c_o)),
    Fact.pure [55] (fun v => v = (Pt c_b c_o)),
    Fact.pure [56] (fun v => v = (.agg #[(Fl r1), (Fl r3), (Fl r5)])),
    Fact.pure [] (fun v => v = (.agg #[(Fl r39), (Fl r41), (Fl r43)])),
    Fact.pure [] (fun v => v = (.agg #[(Fl r27), (Fl r29), (Fl r31)])),
    Fact.pure [] (fun v => v = (Fl r122)),
    Fact.pure [59, 60] (fun v => ∃ cs_1 : List Value, v = (.agg cs_1.toArray) ∧ RV3 w (vscale (rgtC A_c) (cf .f32 r122)) cs_1),
    Fact.pure [58, 61] (fun v => ∃ cs_1 : List Value, v = (.agg cs_1.toArray) ∧ RV3 w (vadd (fwdC A_c) (vscale (rgtC A_c) (cf .f32 r122))) cs_1),
    Fact.pure [] (fun v => v = (.agg #[(Fl r33), (Fl r35), (Fl r37)])),
    Fact.pure [] (fun v => v = (Fl r146)),
    Fact.pure [63, 64] (fun v => ∃ cs_1 : List Value, v = (.agg cs_1.toArray) ∧ RV3 w (vscale (upC A_c) (cf .f32 r146)) cs_1),
    Fact.pure [62, 65] (fun v => ∃ cs_1 : List Value, v = (.agg cs_1.toArray) ∧ RV3 w (vadd (vadd (fwdC A_c) (vscale (rgtC A_c) (cf .f32 r122))) (vscale (upC A_c) (cf .f32 r146))) cs_1),
    Fact.pure [57, 66] (fun v => ∃ r_1 : Nat, ∃ r_2 : Nat, ∃ r_3 : Nat, v = (.agg #[(Fl r1), (Fl r3), (Fl r5), (Fl r_1), (Fl r_2), (Fl r_3)]) ∧ cf .f32 r_1 = (vadd (vadd (fwdC A_c) (vscale (rgtC A_c) (cf .f32 r122))) (vscale (upC A_c) (cf .f32 r146))).x ∧ cf .f32 r_2 = (vadd (vadd (fwdC A_c) (vscale (rgtC A_c) (cf .f32 r122))) (vscale (upC A_c) (cf .f32 r146))).y ∧ cf .f32 r_3 = (vadd (vadd (fwdC A_c) (vscale (rgtC A_c) (cf .f32 r122))) (vscale (upC A_c) (cf .f32 r146))).z)]) mixed (by kernel_rfl) (by intro _ _ d _ _ h; cases d <;> exact h) ?_
  obtain ⟨w149, hw151⟩ : ∃ w', w' = World.drew w141 := ⟨_, rfl⟩; rw [← hw151]; have E150 : Ext w141 w149 := by rw [hw151]; exact Ext.draw _
  clear hw151
  have X152 := Ext.gr X145 E150
  refine RW_d (fun v153 => [(Pt c_b c_o), (Iv x), (Iv y), Ud, Ud, Ud, (Pt b16 0), (Pt b46 0), (Pt b55 0), (Pt b65 0), (Fl r122), (Fl r146), (.tuple #[(.agg #[(Fl r27), (Fl r29), (Fl r31)]), (.agg #[(Fl r33), (Fl r35), (Fl r37)]), (.agg #[(Fl r39), (Fl r41), (Fl r43)])]), (Pt c_b c_o), (.tuple #[(.agg #[(Fl r27), (Fl r29), (Fl r31)]), (.agg #[(Fl r33), (Fl r35), (Fl r37)]), (.agg #[(Fl r39), (Fl r41), (Fl r43)])]), (.agg #[(Fl r27), (Fl r29), (Fl r31)]), (.agg #[(Fl r33), (Fl r35), (Fl r37)]), (.agg #[(Fl r39), (Fl r41), (Fl r43)]), v93, v94, v95, v96, v97, v98, v99, v100, v101, v102, v103, v104, v105, v106, v107, v108, v109, v110, v111, v112, v113, v114, v115, (Fl r122), v129, v130, v131, v132, v133, v134, v135, v136, v137, v138, v139, (Fl r146), v153, Ud, Ud, Ud, Ud, Ud, Ud, Ud, Ud, Ud, Ud, Ud, Ud, Ud]) rfl (fun _ => rfl) (fun u hu hF => ?_) (fun v153 => ?_)
  · clear hF
    refine doesG_un rfl ?_
    refine (does_move (u := (Pt c_b c_o)) (ev rfl)).mono ?_; rintro _ _ ⟨rfl, rfl⟩
    exact ⟨rfl, Ext.refl _⟩
  refine RW_d (fun v154 => [(Pt c_b c_o), (Iv x), (Iv y), Ud, Ud, Ud, (Pt b16 0), (Pt b46 0), (Pt b55 0), (Pt b65 0), (Fl r122), (Fl r146), (.tuple #[(.agg #[(Fl r27), (Fl r29), (Fl r31)]), (.agg #[(Fl r33), (Fl r35), (Fl r37)]), (.agg #[(Fl r39), (Fl r41), (Fl r43)])]), (Pt c_b c_o), (.tuple #[(.agg #[(Fl r27), (Fl r29), (Fl r31)]), (.agg #[(Fl r33), (Fl r35), (Fl r37)]), (.agg #[(Fl r39), (Fl r41), (Fl r43)])]), (.agg #[(Fl r27), (Fl r29), (Fl r31)]), (.agg #[(Fl r33), (Fl r35), (Fl r37)]), (.agg #[(Fl r39), (Fl r41), (Fl r43)]), v93, v94, v95, v96, v97, v98, v99, v100, v101, v102, v103, v104, v105, v106, v107, v108, v109, v110, v111, v112, v113, v114, v115, (Fl r122), v129, v130, v131, v132, v133, v134, v135, v136, v137, v138, v139, (Fl r146), v153, v154, Ud, Ud, Ud, Ud, Ud, Ud, Ud, Ud, Ud, Ud, Ud, Ud]) rfl (fun _ => rfl) (fun u hu hF => ?_) (fun v154 => ?_)
  · have h54_ : v153 = (Pt c_b c_o) := hF.1
    clear hF
    refine doesG_un rfl ?_
    obtain rfl := h54_
    refine (does_nilCheck (ev rfl)).mono ?_; rintro _ _ ⟨rfl, rfl⟩
    exact ⟨rfl, Ext.refl _⟩
  refine RW_d (fun v155 => [(Pt c_b c_o), (Iv x), (Iv y), Ud, Ud, Ud, (Pt b16 0), (Pt b46 0), (Pt b55 0), (Pt b65 0), (Fl r122), (Fl r146), (.tuple #[(.agg #[(Fl r27), (Fl r29), (Fl r31)]), (.agg #[(Fl r33), (Fl r35), (Fl r37)]), (.agg #[(Fl r39), (Fl r41), (Fl r43)])]), (Pt c_b c_o), (.tuple #[(.agg #[(Fl r27), (Fl r29), (Fl r31)]), (.agg #[(Fl r33), (Fl r35), (Fl r37)]), (.agg #[(Fl r39), (Fl r41), (Fl r43)])]), (.agg #[(Fl r27), (Fl r29), (Fl r31)]), (.agg #[(Fl r33), (Fl r35), (Fl r37)]), (.agg #[(Fl r39), (Fl r41), (Fl r43)]), v93, v94, v95, v96, v97, v98, v99, v100, v101, v102, v103, v104, v105, v106, v107, v108, v109, v110, v111, v112, v113, v114, v115, (Fl r122), v129, v130, v131, v132, v133, v134, v135, v136, v137, v138, v139, (Fl r146), v153, v154, v155, Ud, Ud, Ud, Ud, Ud, Ud, Ud, Ud, Ud, Ud, Ud]) rfl (fun _ => rfl) (fun u hu hF => ?_) (fun v155 => ?_)
  · have h55_ : v154 = (Pt c_b c_o) := hF.1
    clear hF
    refine doesG_un rfl ?_
    obtain rfl := h55_
    refine (does_fieldAddr (ev rfl) fa48_0).mono ?_; rintro _ _ ⟨rfl, rfl⟩
    exact ⟨rfl, Ext.refl _⟩
  refine RW_d (fun v156 => [(Pt c_b c_o), (Iv x), (Iv y), Ud, Ud, Ud, (Pt b16 0), (Pt b46 0), (Pt b55 0), (Pt b65 0), (Fl r122), (Fl r146), (.tuple #[(.agg #[(Fl r27), (Fl r29), (Fl r31)]), (.agg #[(Fl r33), (Fl r35), (Fl r37)]), (.agg #[(Fl r39), (Fl r41), (Fl r43)])]), (Pt c_b c_o), (.tuple #[(.agg #[(Fl r27), (Fl r29), (Fl r31)]), (.agg #[(Fl r33), (Fl r35), (Fl r37)]), (.agg #[(Fl r39), (Fl r41), (Fl r43)])]), (.agg #[(Fl r27), (Fl r29), (Fl r31)]), (.agg #[(Fl r33), (Fl r35), (Fl r37)]), (.agg #[(Fl r39), (Fl r41), (Fl r43)]), v93, v94, v95, v96, v97, v98, v99, v100, v101, v102, v103, v104, v105, v106, v107, v108, v109, v110, v111, v112, v113, v114, v115, (Fl r122), v129, v130, v131, v132, v133, v134, v135, v136, v137, v138, v139, (Fl r146), v153, v154, v155, v156, Ud, Ud, Ud, Ud, Ud, Ud, Ud, Ud, Ud, Ud]) rfl (fun _ => rfl) (fun u hu hF => ?_) (fun v156 => ?_)
  · have h56_ : v155 = (Pt c_b c_o) := hF.1
    clear hF
    refine doesG_un rfl ?_
    obtain rfl := h56_
    refine (does_loadAgg (cs := [(Fl r1), (Fl r3), (Fl r5)]) (ev rfl) Try.isAgg26 Try.sizeOf26 (Cells.sub ((hc_c.ext (Ext.gr X145 E150)).ext hu) 0 3) rfl).mono ?_; rintro _ _ ⟨rfl, rfl⟩
    exact ⟨rfl, Ext.refl _⟩
  refine RW_d (fun v157 => [(Pt c_b c_o), (Iv x), (Iv y), Ud, Ud, Ud, (Pt b16 0), (Pt b46 0), (Pt b55 0), (Pt b65 0), (Fl r122), (Fl r146), (.tuple #[(.agg #[(Fl r27), (Fl r29), (Fl r31)]), (.agg #[(Fl r33), (Fl r35), (Fl r37)]), (.agg #[(Fl r39), (Fl r41), (Fl r43)])]), (Pt c_b c_o), (.tuple #[(.agg #[(Fl r27), (Fl r29), (Fl r31)]), (.agg #[(Fl r33), (Fl r35), (Fl r37)]), (.agg #[(Fl r39), (Fl r41), (Fl r43)])]), (.agg #[(Fl r27), (Fl r29), (Fl r31)]), (.agg #[(Fl r33), (Fl r35), (Fl r37)]), (.agg #[(Fl r39), (Fl r41), (Fl r43)]), v93, v94, v95, v96, v97, v98, v99, v100, v101, v102, v103, v104, v105, v106, v107, v108, v109, v110, v111, v112, v113, v114, v115, (Fl r122), v129, v130, v131, v132, v133, v134, v135, v136, v137, v138, v139, (Fl r146), v153, v154, v155, v156, v157, Ud, Ud, Ud, Ud, Ud, Ud, Ud, Ud, Ud]) rfl (fun _ => rfl) (fun u hu hF => ?_) (fun v157 => ?_)
  · clear hF
    refine doesG_un rfl ?_
    refine (does_loadAgg (cs := [(Fl r39), (Fl r41), (Fl r43)]) (ev rfl) Try.isAgg26 Try.sizeOf26 (Blk.cells ((((((hB85.ext E90).ext E118).ext E126).ext E142).ext E150).ext hu)) rfl).mono ?_; rintro _ _ ⟨rfl, rfl⟩
    exact ⟨rfl, Ext.refl _⟩
  refine RW_d (fun v158 => [(Pt c_b c_o), (Iv x), (Iv y), Ud, Ud, Ud, (Pt b16 0), (Pt b46 0), (Pt b55 0), (Pt b65 0), (Fl r122), (Fl r146), (.tuple #[(.agg #[(Fl r27), (Fl r29), (Fl r31)]), (.agg #[(Fl r33), (Fl r35), (Fl r37)]), (.agg #[(Fl r39), (Fl r41), (Fl r43)])]), (Pt c_b c_o), (.tuple #[(.agg #[(Fl r27), (Fl r29), (Fl r31)]), (.agg #[(Fl r33), (Fl r35), (Fl r37)]), (.agg #[(Fl r39), (Fl r41), (Fl r43)])]), (.agg #[(Fl r27), (Fl r29), (Fl r31)]), (.agg #[(Fl r33), (Fl r35), (Fl r37)]), (.agg #[(Fl r39), (Fl r41), (Fl r43)]), v93, v94, v95, v96, v97, v98, v99, v100, v101, v102, v103, v104, v105, v106, v107, v108, v109, v110, v111, v112, v113, v114, v115, (Fl r122), v129, v130, v131, v132, v133, v134, v135, v136, v137, v138, v139, (Fl r146), v153, v154, v155, v156, v157, v158, Ud, Ud, Ud, Ud, Ud, Ud, Ud, Ud]) rfl (fun _ => rfl) (fun u hu hF => ?_) (fun v158 => ?_)
  · clear hF
    refine doesG_un rfl ?_
    refine (does_loadAgg (cs := [(Fl r27), (Fl r29), (Fl r31)]) (ev rfl) Try.isAgg26 Try.sizeOf26 (Blk.cells ((((((((hB77.wr W80 (Nat.ne_of_lt n62)).wr W84 (Nat.ne_of_lt n72)).ext E90).ext E118).ext E126).ext E142).ext E150).ext hu)) rfl).mono ?_; rintro _ _ ⟨rfl, rfl⟩
    exact ⟨rfl, Ext.refl _⟩
  refine RW_d (fun v159 => [(Pt c_b c_o), (Iv x), (Iv y), Ud, Ud, Ud, (Pt b16 0), (Pt b46 0), (Pt b55 0), (Pt b65 0), (Fl r122), (Fl r146), (.tuple #[(.agg #[(Fl r27), (Fl r29), (Fl r31)]), (.agg #[(Fl r33), (Fl r35), (Fl r37)]), (.agg #[(Fl r39), (Fl r41), (Fl r43)])]), (Pt c_b c_o), (.tuple #[(.agg #[(Fl r27), (Fl r29), (Fl r31)]), (.agg #[(Fl r33), (Fl r35), (Fl r37)]), (.agg #[(Fl r39), (Fl r41), (Fl r43)])]), (.agg #[(Fl r27), (Fl r29), (Fl r31)]), (.agg #[(Fl r33), (Fl r35), (Fl r37)]), (.agg #[(Fl r39), (Fl r41), (Fl r43)]), v93, v94, v95, v96, v97, v98, v99, v100, v101, v102, v103, v104, v105, v106, v107, v108, v109, v110, v111, v112, v113, v114, v115, (Fl r122), v129, v130, v131, v132, v133, v134, v135, v136, v137, v138, v139, (Fl r146), v153, v154, v155, v156, v157, v158, v159, Ud, Ud, Ud, Ud, Ud, Ud, Ud]) rfl (fun _ => rfl) (fun u hu hF => ?_) (fun v159 => ?_)
  · clear hF
    refine doesG_un rfl ?_
    refine (does_move (u := (Fl r122)) (ev rfl)).mono ?_; rintro _ _ ⟨rfl, rfl⟩
    exact ⟨rfl, Ext.refl _⟩
  refine RW_d (fun v160 => [(Pt c_b c_o), (Iv x), (Iv y), Ud, Ud, Ud, (Pt b16 0), (Pt b46 0), (Pt b55 0), (Pt b65 0), (Fl r122), (Fl r146), (.tuple #[(.agg #[(Fl r27), (Fl r29), (Fl r31)]), (.agg #[(Fl r33), (Fl r35), (Fl r37)]), (.agg #[(Fl r39), (Fl r41), (Fl r43)])]), (Pt c_b c_o), (.tuple #[(.agg #[(Fl r27), (Fl r29), (Fl r31)]), (.agg #[(Fl r33), (Fl r35), (Fl r37)]), (.agg #[(Fl r39), (Fl r41), (Fl r43)])]), (.agg #[(Fl r27), (Fl r29), (Fl r31)]), (.agg #[(Fl r33), (Fl r35), (Fl r37)]), (.agg #[(Fl r39), (Fl r41), (Fl r43)]), v93, v94, v95, v96, v97, v98, v99, v100, v101, v102, v103, v104, v105, v106, v107, v108, v109, v110, v111, v112, v113, v114, v115, (Fl r122), v129, v130, v131, v132, v133, v134, v135, v136, v137, v138, v139, (Fl r146), v153, v154, v155, v156, v157, v158, v159, v160, Ud, Ud, Ud, Ud, Ud, Ud]) rfl (fun _ => rfl) (fun u hu hF => ?_) (fun v160 => ?_)
  · have h59_ : v158 = (.agg #[(Fl r27), (Fl r29), (Fl r31)]) := hF.1
    have h60_ : v159 = (Fl r122) := hF.2.1
    clear hF
    refine doesG_un rfl ?_
    obtain rfl := h59_
    obtain rfl := h60_
    refine (does_call (args := #[(.agg #[(Fl r27), (Fl r29), (Fl r31)]), (Fl r122)]) cal92 (evs rfl) (c_impl_ScaleVector [(Fl r27), (Fl r29), (Fl r31)] (rgtC A_c) r122 _ ⟨r27, r29, r31, rfl, h28, h30, h32⟩)).mono ?_; rintro v u' ⟨hx, ⟨csn1, hv, k0⟩⟩
    exact ⟨⟨csn1, hv, k0⟩, hx⟩
  refine RW_d (fun v161 => [(Pt c_b c_o), (Iv x), (Iv y), Ud, Ud, Ud, (Pt b16 0), (Pt b46 0), (Pt b55 0), (Pt b65 0), (Fl r122), (Fl r146), (.tuple #[(.agg #[(Fl r27), (Fl r29), (Fl r31)]), (.agg #[(Fl r33), (Fl r35), (Fl r37)]), (.agg #[(Fl r39), (Fl r41), (Fl r43)])]), (Pt c_b c_o), (.tuple #[(.agg #[(Fl r27), (Fl r29), (Fl r31)]), (.agg #[(Fl r33), (Fl r35), (Fl r37)]), (.agg #[(Fl r39), (Fl r41), (Fl r43)])]), (.agg #[(Fl r27), (Fl r29), (Fl r31)]), (.agg #[(Fl r33), (Fl r35), (Fl r37)]), (.agg #[(Fl r39), (Fl r41), (Fl r43)]), v93, v94, v95, v96, v97, v98, v99, v100, v101, v102, v103, v104, v105, v106, v107, v108, v109, v110, v111, v112, v113, v114, v115, (Fl r122), v129, v130, v131, v132, v133, v134, v135, v136, v137, v138, v139, (Fl r146), v153, v154, v155, v156, v157, v158, v159, v160, v161, Ud, Ud, Ud, Ud, Ud]) rfl (fun _ => rfl) (fun u hu hF => ?_) (fun v161 => ?_)
  · have h58_ : v157 = (.agg #[(Fl r39), (Fl r41), (Fl r43)]) := hF.1
    have h61_ : ∃ cs_1 : List Value, v160 = (.agg cs_1.toArray) ∧ RV3 w (vscale (rgtC A_c) (cf .f32 r122)) cs_1 := hF.2.1
    clear hF
    refine doesG_un rfl ?_
    obtain rfl := h58_
    obtain ⟨_, rfl, ⟨r61_1, r61_3, r61_5, rfl, h61_2, h61_4, h61_6⟩⟩ := h61_
    refine (does_call (args := #[(.agg #[(Fl r39), (Fl r41), (Fl r43)]), (.agg #[(Fl r61_1), (Fl r61_3), (Fl r61_5)])]) cal93 (evs rfl) (c_impl_AddVectors [(Fl r39), (Fl r41), (Fl r43)] (fwdC A_c) [(Fl r61_1), (Fl r61_3), (Fl r61_5)] (vscale (rgtC A_c) (cf .f32 r122)) _ ⟨r39, r41, r43, rfl, h40, h42, h44⟩ ⟨r61_1, r61_3, r61_5, rfl, (by assumption), (by assumption), (by assumption)⟩)).mono ?_; rintro v u' ⟨hx, ⟨csn1, hv, k0⟩⟩
    exact ⟨⟨csn1, hv.trans (by simp only [h61_2, h61_4, h61_6]), (by first | exact k0 | simpa only [h61_2, h61_4, h61_6] using RV3.any (w := w) k0)⟩, hx⟩
  refine RW_d (fun v162 => [(Pt c_b c_o), (Iv x), (Iv y), Ud, Ud, Ud, (Pt b16 0), (Pt b46 0), (Pt b55 0), (Pt b65 0), (Fl r122), (Fl r146), (.tuple #[(.agg #[(Fl r27), (Fl r29), (Fl r31)]), (.agg #[(Fl r33), (Fl r35), (Fl r37)]), (.agg #[(Fl r39), (Fl r41), (Fl r43)])]), (Pt c_b c_o), (.tuple #[(.agg #[(Fl r27), (Fl r29), (Fl r31)]), (.agg #[(Fl r33), (Fl r35), (Fl r37)]), (.agg #[(Fl r39), (Fl r41), (Fl r43)])]), (.agg #[(Fl r27), (Fl r29), (Fl r31)]), (.agg #[(Fl r33), (Fl r35), (Fl r37)]), (.agg #[(Fl r39), (Fl r41), (Fl r43)]), v93, v94, v95, v96, v97, v98, v99, v100, v101, v102, v103, v104, v105, v106, v107, v108, v109, v110, v111, v112, v113, v114, v115, (Fl r122), v129, v130, v131, v132, v133, v134, v135, v136, v137, v138, v139, (Fl r146), v153, v154, v155, v156, v157, v158, v159, v160, v161, v162, Ud, Ud, Ud, Ud]) rfl (fun _ => rfl) (fun u hu hF => ?_) (fun v162 => ?_)
  · clear hF
    refine doesG_un rfl ?_
    refine (does_loadAgg (cs := [(Fl r33), (Fl r35), (Fl r37)]) (ev rfl) Try.isAgg26 Try.sizeOf26 (Blk.cells (((((((hB81.wr W84 (Nat.ne_of_lt n73)).ext E90).ext E118).ext E126).ext E142).ext E150).ext hu)) rfl).mono ?_; rintro _ _ ⟨rfl, rfl⟩
    exact ⟨rfl, Ext.refl _⟩
  refine RW_d (fun v163 => [(Pt c_b c_o), (Iv x), (Iv y), Ud, Ud, Ud, (Pt b16 0), (Pt b46 0), (Pt b55 0), (Pt b65 0), (Fl r122), (Fl r146), (.tuple #[(.agg #[(Fl r27), (Fl r29), (Fl r31)]), (.agg #[(Fl r33), (Fl r35), (Fl r37)]), (.agg #[(Fl r39), (Fl r41), (Fl r43)])]), (Pt c_b c_o), (.tuple #[(.agg #[(Fl r27), (Fl r29), (Fl r31)]), (.agg #[(Fl r33), (Fl r35), (Fl r37)]), (.agg #[(Fl r39), (Fl r41), (Fl r43)])]), (.agg #[(Fl r27), (Fl r29), (Fl r31)]), (.agg #[(Fl r33), (Fl r35), (Fl r37)]), (.agg #[(Fl r39), (Fl r41), (Fl r43)]), v93, v94, v95, v96, v97, v98, v99, v100, v101, v102, v103, v104, v105, v106, v107, v108, v109, v110, v111, v112, v113, v114, v115, (Fl r122), v129, v130, v131, v132, v133, v134, v135, v136, v137, v138, v139, (Fl r146), v153, v154, v155, v156, v157, v158, v159, v160, v161, v162, v163, Ud, Ud, Ud]) rfl (fun _ => rfl) (fun u hu hF => ?_) (fun v163 => ?_)
  · clear hF
    refine doesG_un rfl ?_
    refine (does_move (u := (Fl r146)) (ev rfl)).mono ?_; rintro _ _ ⟨rfl, rfl⟩
    exact ⟨rfl, Ext.refl _⟩
  refine RW_d (fun v164 => [(Pt c_b c_o), (Iv x), (Iv y), Ud, Ud, Ud, (Pt b16 0), (Pt b46 0), (Pt b55 0), (Pt b65 0), (Fl r122), (Fl r146), (.tuple #[(.agg #[(Fl r27), (Fl r29), (Fl r31)]), (.agg #[(Fl r33), (Fl r35), (Fl r37)]), (.agg #[(Fl r39), (Fl r41), (Fl r43)])]), (Pt c_b c_o), (.tuple #[(.agg #[(Fl r27), (Fl r29), (Fl r31)]), (.agg #[(Fl r33), (Fl r35), (Fl r37)]), (.agg #[(Fl r39), (Fl r41), (Fl r43)])]), (.agg #[(Fl r27), (Fl r29), (Fl r31)]), (.agg #[(Fl r33), (Fl r35), (Fl r37)]), (.agg #[(Fl r39), (Fl r41), (Fl r43)]), v93, v94, v95, v96, v97, v98, v99, v100, v101, v102, v103, v104, v105, v106, v107, v108, v109, v110, v111, v112, v113, v114, v115, (Fl r122), v129, v130, v131, v132, v133, v134, v135, v136, v137, v138, v139, (Fl r146), v153, v154, v155, v156, v157, v158, v159, v160, v161, v162, v163, v164, Ud, Ud]) rfl (fun _ => rfl) (fun u hu hF => ?_) (fun v164 => ?_)
  · have h63_ : v162 = (.agg #[(Fl r33), (Fl r35), (Fl r37)]) := hF.1
    have h64_ : v163 = (Fl r146) := hF.2.1
    clear hF
    refine doesG_un rfl ?_
    obtain rfl := h63_
    obtain rfl := h64_
    refine (does_call (args := #[(.agg #[(Fl r33), (Fl r35), (Fl r37)]), (Fl r146)]) cal92 (evs rfl) (c_impl_ScaleVector [(Fl r33), (Fl r35), (Fl r37)] (upC A_c) r146 _ ⟨r33, r35, r37, rfl, h34, h36, h38⟩)).mono ?_; rintro v u' ⟨hx, ⟨csn1, hv, k0⟩⟩
    exact ⟨⟨csn1, hv, k0⟩, hx⟩
  refine RW_d (fun v165 => [(Pt c_b c_o), (Iv x), (Iv y), Ud, Ud, Ud, (Pt b16 0), (Pt b46 0), (Pt b55 0), (Pt b65 0), (Fl r122), (Fl r146), (.tuple #[(.agg #[(Fl r27), (Fl r29), (Fl r31)]), (.agg #[(Fl r33), (Fl r35), (Fl r37)]), (.agg #[(Fl r39), (Fl r41), (Fl r43)])]), (Pt c_b c_o), (.tuple #[(.agg #[(Fl r27), (Fl r29), (Fl r31)]), (.agg #[(Fl r33), (Fl r35), (Fl r37)]), (.agg #[(Fl r39), (Fl r41), (Fl r43)])]), (.agg #[(Fl r27), (Fl r29), (Fl r31)]), (.agg #[(Fl r33), (Fl r35), (Fl r37)]), (.agg #[(Fl r39), (Fl r41), (Fl r43)]), v93, v94, v95, v96, v97, v98, v99, v100, v101, v102, v103, v104, v105, v106, v107, v108, v109, v110, v111, v112, v113, v114, v115, (Fl r122), v129, v130, v131, v132, v133, v134, v135, v136, v137, v138, v139, (Fl r146), v153, v154, v155, v156, v157, v158, v159, v160, v161, v162, v163, v164, v165, Ud]) rfl (fun _ => rfl) (fun u hu hF => ?_) (fun v165 => ?_)
  · have h62_ : ∃ cs_1 : List Value, v161 = (.agg cs_1.toArray) ∧ RV3 w (vadd (fwdC A_c) (vscale (rgtC A_c) (cf .f32 r122))) cs_1 := hF.1
    have h65_ : ∃ cs_1 : List Value, v164 = (.agg cs_1.toArray) ∧ RV3 w (vscale (upC A_c) (cf .f32 r146)) cs_1 := hF.2.1
    clear hF
    refine doesG_un rfl ?_
    obtain ⟨_, rfl, ⟨r62_1, r62_3, r62_5, rfl, h62_2, h62_4, h62_6⟩⟩ := h62_
    obtain ⟨_, rfl, ⟨r65_1, r65_3, r65_5, rfl, h65_2, h65_4, h65_6⟩⟩ := h65_
    refine (does_call (args := #[(.agg #[(Fl r62_1), (Fl r62_3), (Fl r62_5)]), (.agg #[(Fl r65_1), (Fl r65_3), (Fl r65_5)])]) cal93 (evs rfl) (c_impl_AddVectors [(Fl r62_1), (Fl r62_3), (Fl r62_5)] (vadd (fwdC A_c) (vscale (rgtC A_c) (cf .f32 r122))) [(Fl r65_1), (Fl r65_3), (Fl r65_5)] (vscale (upC A_c) (cf .f32 r146)) _ ⟨r62_1, r62_3, r62_5, rfl, (by assumption), (by assumption), (by assumption)⟩ ⟨r65_1, r65_3, r65_5, rfl, (by assumption), (by assumption), (by assumption)⟩)).mono ?_; rintro v u' ⟨hx, ⟨csn1, hv, k0⟩⟩
    exact ⟨⟨csn1, hv.trans (by simp only [h62_2, h62_4, h62_6, h65_2, h65_4, h65_6]), (by first | exact k0 | simpa only [h62_2, h62_4, h62_6, h65_2, h65_4, h65_6] using RV3.any (w := w) k0)⟩, hx⟩
  refine RW_d (fun v166 => [(Pt c_b c_o), (Iv x), (Iv y), Ud, Ud, Ud, (Pt b16 0), (Pt b46 0), (Pt b55 0), (Pt b65 0), (Fl r122), (Fl r146), (.tuple #[(.agg #[(Fl r27), (Fl r29), (Fl r31)]), (.agg #[(Fl r33), (Fl r35), (Fl r37)]), (.agg #[(Fl r39), (Fl r41), (Fl r43)])]), (Pt c_b c_o), (.tuple #[(.agg #[(Fl r27), (Fl r29), (Fl r31)]), (.agg #[(Fl r33), (Fl r35), (Fl r37)]), (.agg #[(Fl r39), (Fl r41), (Fl r43)])]), (.agg #[(Fl r27), (Fl r29), (Fl r31)]), (.agg #[(Fl r33), (Fl r35), (Fl r37)]), (.agg #[(Fl r39), (Fl r41), (Fl r43)]), v93, v94, v95, v96, v97, v98, v99, v100, v101, v102, v103, v104, v105, v106, v107, v108, v109, v110, v111, v112, v113, v114, v115, (Fl r122), v129, v130, v131, v132, v133, v134, v135, v136, v137, v138, v139, (Fl r146), v153, v154, v155, v156, v157, v158, v159, v160, v161, v162, v163, v164, v165, v166]) rfl (fun _ => rfl) (fun u hu hF => ?_) (fun v166 => ?_)
  · have h57_ : v156 = (.agg #[(Fl r1), (Fl r3), (Fl r5)]) := hF.1
    have h66_ : ∃ cs_1 : List Value, v165 = (.agg cs_1.toArray) ∧ RV3 w (vadd (vadd (fwdC A_c) (vscale (rgtC A_c) (cf .f32 r122))) (vscale (upC A_c) (cf .f32 r146))) cs_1 := hF.2.1
    clear hF
    refine doesG_un rfl ?_
    obtain rfl := h57_
    obtain ⟨_, rfl, ⟨r66_1, r66_3, r66_5, rfl, h66_2, h66_4, h66_6⟩⟩ := h66_
    refine (does_build (parts' := [(0, (.agg #[(Fl r1), (Fl r3), (Fl r5)])), (1, (.agg #[(Fl r66_1), (Fl r66_3), (Fl r66_5)]))]) (cells := #[(Fl r1), (Fl r3), (Fl r5), (Fl r66_1), (Fl r66_3), (Fl r66_5)]) (evp rfl) (by kernel_rfl)).mono ?_; rintro _ _ ⟨rfl, rfl⟩
    exact ⟨⟨r66_1, r66_3, r66_5, rfl, (by simp only [h66_2, h66_4, h66_6]), (by simp only [h66_2, h66_4, h66_6]), (by simp only [h66_2, h66_4, h66_6])⟩, Ext.refl _⟩
  refine RW_fin ?_; intro w167 E168 hP169
  obtain ⟨⟨⟨⟨⟨⟨⟨⟨⟨⟨⟨⟨⟨⟨-, -⟩, -⟩, -⟩, -⟩, -⟩, -⟩, -⟩, -⟩, -⟩, -⟩, -⟩, -⟩, -⟩, q170⟩ := hP169
  have X171 := Ext.gr X152 E168
  have q170 : ∃ r_1 : Nat, ∃ r_2 : Nat, ∃ r_3 : Nat, v166 = (.agg #[(Fl r1), (Fl r3), (Fl r5), (Fl r_1), (Fl r_2), (Fl r_3)]) ∧ cf .f32 r_1 = (vadd (vadd (fwdC A_c) (vscale (rgtC A_c) (cf .f32 r122))) (vscale (upC A_c) (cf .f32 r146))).x ∧ cf .f32 r_2 = (vadd (vadd (fwdC A_c) (vscale (rgtC A_c) (cf .f32 r122))) (vscale (upC A_c) (cf .f32 r146))).y ∧ cf .f32 r_3 = (vadd (vadd (fwdC A_c) (vscale (rgtC A_c) (cf .f32 r122))) (vscale (upC A_c) (cf .f32 r146))).z := q170
  obtain ⟨r172, r174, r176, rfl, h173, h175, h177⟩ := q170
  show wpList _ _ _ _ (fr [(Pt c_b c_o), (Iv x), (Iv y), Ud, Ud, Ud, (Pt b16 0), (Pt b46 0), (Pt b55 0), (Pt b65 0), (Fl r122), (Fl r146), (.tuple #[(.agg #[(Fl r27), (Fl r29), (Fl r31)]), (.agg #[(Fl r33), (Fl r35), (Fl r37)]), (.agg #[(Fl r39), (Fl r41), (Fl r43)])]), (Pt c_b c_o), (.tuple #[(.agg #[(Fl r27), (Fl r29), (Fl r31)]), (.agg #[(Fl r33), (Fl r35), (Fl r37)]), (.agg #[(Fl r39), (Fl r41), (Fl r43)])]), (.agg #[(Fl r27), (Fl r29), (Fl r31)]), (.agg #[(Fl r33), (Fl r35), (Fl r37)]), (.agg #[(Fl r39), (Fl r41), (Fl r43)]), v93, v94, v95, v96, v97, v98, v99, v100, v101, v102, v103, v104, v105, v106, v107, v108, v109, v110, v111, v112, v113, v114, v115, (Fl r122), v129, v130, v131, v132, v133, v134, v135, v136, v137, v138, v139, (Fl r146), v153, v154, v155, v156, v157, v158, v159, v160, v161, v162, v163, v164, v165, (.agg #[(Fl r1), (Fl r3), (Fl r5), (Fl r172), (Fl r174), (Fl r176)])]) _
  refine seqn rfl rfl (does_store (n := 6) (cs := [(Fl 0), (Fl 0), (Fl 0), (Fl 0), (Fl 0), (Fl 0)]) (u := (.agg #[(Fl r1), (Fl r3), (Fl r5), (Fl r172), (Fl r174), (Fl r176)])) (ev rfl) (ev rfl) Try.sizeOf64 rfl (((((((((((((hB18.ext E25).ext E49).ext E58).ext E68).wr W76 (Nat.ne_of_lt n52)).wr W80 (Nat.ne_of_lt n61)).wr W84 (Nat.ne_of_lt n71)).ext E90).ext E118).ext E126).ext E142).ext E150).ext E168) (Nat.le_of_ble_eq_true rfl) rfl) ?_; rintro _ w180 ⟨rfl, W178, hB179⟩
  change Blk _ _ [(Fl r1), (Fl r3), (Fl r5), (Fl r172), (Fl r174), (Fl r176)] at hB179
  have X181 := Below.wr X171 W178 g22
  refine wpList_nil (hK148 _ _ ?_)
  refine wp_ret ?_
  refine ret_val (v := (.agg #[(Fl r1), (Fl r3), (Fl r5), (Fl r172), (Fl r174), (Fl r176)])) (res_C rfl (slot rfl) (run_loadAgg (cs := [(Fl r1), (Fl r3), (Fl r5), (Fl r172), (Fl r174), (Fl r176)]) Try.isAgg64 Try.sizeOf64 (Blk.cells hB179) rfl)) X181 ?_
  have x182 : cf .f32 r1 = (rayC A_c x y).frm.x := by first | with_reducible rfl | (simp only [rayC, uC, vC, shareF, nrF, h2, h4, h6, h8, h10, h12, h14, h28, h30, h32, h34, h36, h38, h40, h42, h44, h123, h147, h173, h175, h177]; done) | (simp [rayC, uC, vC, shareF, nrF, h2, h4, h6, h8, h10, h12, h14, h28, h30, h32, h34, h36, h38, h40, h42, h44, h123, h147, h173, h175, h177]; done) | rfl
  have x183 : cf .f32 r3 = (rayC A_c x y).frm.y := by first | with_reducible rfl | (simp only [rayC, uC, vC, shareF, nrF, h2, h4, h6, h8, h10, h12, h14, h28, h30, h32, h34, h36, h38, h40, h42, h44, h123, h147, h173, h175, h177]; done) | (simp [rayC, uC, vC, shareF, nrF, h2, h4, h6, h8, h10, h12, h14, h28, h30, h32, h34, h36, h38, h40, h42, h44, h123, h147, h173, h175, h177]; done) | rfl
  have x184 : cf .f32 r5 = (rayC A_c x y).frm.z := by first | with_reducible rfl | (simp only [rayC, uC, vC, shareF, nrF, h2, h4, h6, h8, h10, h12, h14, h28, h30, h32, h34, h36, h38, h40, h42, h44, h123, h147, h173, h175, h177]; done) | (simp [rayC, uC, vC, shareF, nrF, h2, h4, h6, h8, h10, h12, h14, h28, h30, h32, h34, h36, h38, h40, h42, h44, h123, h147, h173, h175, h177]; done) | rfl
  have x185 : cf .f32 r172 = (rayC A_c x y).way.x := by first | with_reducible rfl | (simp only [rayC, uC, vC, shareF, nrF, h2, h4, h6, h8, h10, h12, h14, h28, h30, h32, h34, h36, h38, h40, h42, h44, h123, h147, h173, h175, h177]; done) | (simp [rayC, uC, vC, shareF, nrF, h2, h4, h6, h8, h10, h12, h14, h28, h30, h32, h34, h36, h38, h40, h42, h44, h123, h147, h173, h175, h177]; done) | rfl
  have x186 : cf .f32 r174 = (rayC A_c x y).way.y := by first | with_reducible rfl | (simp only [rayC, uC, vC, shareF, nrF, h2, h4, h6, h8, h10, h12, h14, h28, h30, h32, h34, h36, h38, h40, h42, h44, h123, h147, h173, h175, h177]; done) | (simp [rayC, uC, vC, shareF, nrF, h2, h4, h6, h8, h10, h12, h14, h28, h30, h32, h34, h36, h38, h40, h42, h44, h123, h147, h173, h175, h177]; done) | rfl
  have x187 : cf .f32 r176 = (rayC A_c x y).way.z := by first | with_reducible rfl | (simp only [rayC, uC, vC, shareF, nrF, h2, h4, h6, h8, h10, h12, h14, h28, h30, h32, h34, h36, h38, h40, h42, h44, h123, h147, h173, h175, h177]; done) | (simp [rayC, uC, vC, shareF, nrF, h2, h4, h6, h8, h10, h12, h14, h28, h30, h32, h34, h36, h38, h40, h42, h44, h123, h147, h173, h175, h177]; done) | rfl
  exact ⟨[(Fl r1), (Fl r3), (Fl r5), (Fl r172), (Fl r174), (Fl r176)], rfl, ⟨r1, r3, r5, r172, r174, r176, rfl, x182, x183, x184, x185, x186, x187⟩⟩

/- impl.RayThrough -/
theorem c_impl_RayThrough (c : List Value) (A_c : CamT) (x : Int) (y : Int) (w : World) (hv_c : RCamT w A_c c) : Gives Try.prog 35 #[(.agg c.toArray), (Iv x), (Iv y)] w (fun v w' => ∃ cs_1 : List Value, v = (.tuple #[(.agg cs_1.toArray), (Bo (camPx A_c x y))]) ∧ RRayT w (gvA zRay (camPx A_c x y) (rayC A_c x y)) cs_1) := by
  obtain ⟨r1, r3, r5, r7, r9, r11, r13, rfl, h2, h4, h6, h8, h10, h12, h14⟩ := hv_c
  refine enter [(.agg #[(Fl r1), (Fl r3), (Fl r5), (Fl r7), (Fl r9), (Fl r11), (Fl r13), (Iv A_c.width), (Iv A_c.height)]), (Iv x), (Iv y), Ud, Ud, Ud, Ud, Ud, Ud, Ud, Ud, Ud, Ud, Ud, Ud, Ud] Try.func35 rfl Try.ntmps35 rfl ?_
  refine wp_seq_k fun K15 hK15 => ?_
  refine wp_region_lit ?_
  refine seqd rfl rfl (does_box (u := (.agg #[(Fl r1), (Fl r3), (Fl r5), (Fl r7), (Fl r9), (Fl r11), (Fl r13), (Iv A_c.width), (Iv A_c.height)])) (ev rfl)) ?_; rintro _ w20 ⟨b16, rfl, hb17, hB18, E19⟩
  have g21 : w.heap.size ≤ b16 := Nat.le_trans (Below.size (Ext.refl w)) hb17
  change Blk _ _ [(Fl r1), (Fl r3), (Fl r5), (Fl r7), (Fl r9), (Fl r11), (Fl r13), (Iv A_c.width), (Iv A_c.height)] at hB18
  have X22 := Ext.gr (Ext.refl w) E19
  show wpList _ _ _ _ (fr [(.agg #[(Fl r1), (Fl r3), (Fl r5), (Fl r7), (Fl r9), (Fl r11), (Fl r13), (Iv A_c.width), (Iv A_c.height)]), (Iv x), (Iv y), (Pt b16 0), Ud, Ud, Ud, Ud, Ud, Ud, Ud, Ud, Ud, Ud, Ud, Ud]) _
  refine seqd rfl rfl (does_alloc z64) ?_; rintro _ w27 ⟨b23, rfl, hb24, hB25, E26⟩
  have n28 : b16 < b23 := Nat.lt_of_lt_of_le (Blk.lt hB18) hb24
  have g29 : w.heap.size ≤ b23 := Nat.le_trans (Below.size X22) hb24
  change Blk _ _ [(Fl 0), (Fl 0), (Fl 0), (Fl 0), (Fl 0), (Fl 0)] at hB25
  have X30 := Ext.gr X22 E26
  show wpList _ _ _ _ (fr [(.agg #[(Fl r1), (Fl r3), (Fl r5), (Fl r7), (Fl r9), (Fl r11), (Fl r13), (Iv A_c.width), (Iv A_c.height)]), (Iv x), (Iv y), (Pt b16 0), Ud, Ud, (Pt b23 0), Ud, Ud, Ud, Ud, Ud, Ud, Ud, Ud, Ud]) _
  refine q_is (l' := [(.agg #[(Fl r1), (Fl r3), (Fl r5), (Fl r7), (Fl r9), (Fl r11), (Fl r13), (Iv A_c.width), (Iv A_c.height)]), (Iv x), (Iv y), (Pt b16 0), Ud, Ud, (Pt b23 0), (Bo false), Ud, Ud, Ud, Ud, Ud, Ud, Ud, Ud]) rfl rfl (does_assign (u := (Bo false)) (ev rfl)) rfl ?_
  refine wpList_nil (hK15 _ _ ?_)
  refine wp_seq_k fun K31 hK31 => ?_
  refine wp_seq_k fun K32 hK32 => ?_
  refine wp_region_lit ?_
  refine q_is (l' := [(.agg #[(Fl r1), (Fl r3), (Fl r5), (Fl r7), (Fl r9), (Fl r11), (Fl r13), (Iv A_c.width), (Iv A_c.height)]), (Iv x), (Iv y), (Pt b16 0), Ud, Ud, (Pt b23 0), (Bo false), (Iv x), Ud, Ud, Ud, Ud, Ud, Ud, Ud]) rfl rfl (does_move (u := (Iv x)) (ev rfl)) rfl ?_
  refine q_is (l' := [(.agg #[(Fl r1), (Fl r3), (Fl r5), (Fl r7), (Fl r9), (Fl r11), (Fl r13), (Iv A_c.width), (Iv A_c.height)]), (Iv x), (Iv y), (Pt b16 0), Ud, Ud, (Pt b23 0), (Bo false), (Iv x), (Iv y), Ud, Ud, Ud, Ud, Ud, Ud]) rfl rfl (does_move (u := (Iv y)) (ev rfl)) rfl ?_
  refine seqd rfl rfl (does_call (args := #[(Pt b16 0), (Iv x), (Iv y)]) cal72 (evs rfl) (c_impl_Camera_has b16 0 [(Fl r1), (Fl r3), (Fl r5), (Fl r7), (Fl r9), (Fl r11), (Fl r13), (Iv A_c.width), (Iv A_c.height)] A_c x y _ (Blk.cells (hB18.ext E26)) ⟨r1, r3, r5, r7, r9, r11, r13, rfl, h2, h4, h6, h8, h10, h12, h14⟩)) ?_; rintro _ w34 ⟨E33, rfl⟩
  have X35 := Ext.gr X30 E33
  show wpList _ _ _ _ (fr [(.agg #[(Fl r1), (Fl r3), (Fl r5), (Fl r7), (Fl r9), (Fl r11), (Fl r13), (Iv A_c.width), (Iv A_c.height)]), (Iv x), (Iv y), (Pt b16 0), Ud, Ud, (Pt b23 0), (Bo false), (Iv x), (Iv y), (Bo (camPx A_c x y)), Ud, Ud, Ud, Ud, Ud]) _
  refine q_is (l' := [(.agg #[(Fl r1), (Fl r3), (Fl r5), (Fl r7), (Fl r9), (Fl r11), (Fl r13), (Iv A_c.width), (Iv A_c.height)]), (Iv x), (Iv y), (Pt b16 0), Ud, Ud, (Pt b23 0), (Bo false), (Iv x), (Iv y), (Bo (camPx A_c x y)), (Bo (!(camPx A_c x y))), Ud, Ud, Ud, Ud]) rfl rfl (does_not (ev rfl)) rfl ?_
  refine wpList_nil (hK32 _ _ ?_)
  refine wp_cond_split (t := !(camPx A_c x y)) (ev rfl) (fun c36 => ?_) (fun c36 => ?_)
  · rw [Bool.not_eq_true'] at c36
    have c36' := c36
    refine wp_seq_k fun K37 hK37 => ?_
    refine wp_region_lit ?_
    refine q_is (l' := [(.agg #[(Fl r1), (Fl r3), (Fl r5), (Fl r7), (Fl r9), (Fl r11), (Fl r13), (Iv A_c.width), (Iv A_c.height)]), (Iv x), (Iv y), (Pt b16 0), Ud, Ud, (Pt b23 0), (Bo false), (Iv x), (Iv y), (Bo (camPx A_c x y)), (Bo (!(camPx A_c x y))), (.agg #[(Fl 0), (Fl 0), (Fl 0), (Fl 0), (Fl 0), (Fl 0)]), Ud, Ud, Ud]) rfl rfl (does_build (parts' := []) (cells := #[(Fl 0), (Fl 0), (Fl 0), (Fl 0), (Fl 0), (Fl 0)]) (evp rfl) (by kernel_rfl)) rfl ?_
    refine seqn rfl rfl (does_store (n := 6) (cs := [(Fl 0), (Fl 0), (Fl 0), (Fl 0), (Fl 0), (Fl 0)]) (u := (.agg #[(Fl 0), (Fl 0), (Fl 0), (Fl 0), (Fl 0), (Fl 0)])) (ev rfl) (ev rfl) Try.sizeOf64 rfl (hB25.ext E33) (Nat.le_of_ble_eq_true rfl) rfl) ?_; rintro _ w40 ⟨rfl, W38, hB39⟩
    change Blk _ _ [(Fl 0), (Fl 0), (Fl 0), (Fl 0), (Fl 0), (Fl 0)] at hB39
    have X41 := Below.wr X35 W38 g29
    refine q_is (l' := [(.agg #[(Fl r1), (Fl r3), (Fl r5), (Fl r7), (Fl r9), (Fl r11), (Fl r13), (Iv A_c.width), (Iv A_c.height)]), (Iv x), (Iv y), (Pt b16 0), Ud, Ud, (Pt b23 0), (Bo false), (Iv x), (Iv y), (Bo (camPx A_c x y)), (Bo (!(camPx A_c x y))), (.agg #[(Fl 0), (Fl 0), (Fl 0), (Fl 0), (Fl 0), (Fl 0)]), Ud, Ud, Ud]) rfl rfl (does_assign (u := (Bo false)) (ev rfl)) rfl ?_
    refine wpList_nil (hK37 _ _ ?_)
    refine wp_ret ?_
    dsimp only [Exit.then, Exit.inBlock]
    refine ret_val (v := (.tuple #[(.agg #[(Fl 0), (Fl 0), (Fl 0), (Fl 0), (Fl 0), (Fl 0)]), (Bo false)])) (res_CT rfl (slot rfl) (run_loadAgg (cs := [(Fl 0), (Fl 0), (Fl 0), (Fl 0), (Fl 0), (Fl 0)]) Try.isAgg64 Try.sizeOf64 (Blk.cells hB39) rfl) (slot rfl)) X41 ?_
    try simp only [h2, h4, h6, h8, h10, h12, h14] at c36
    have x42 : (camPx A_c x y) = false := by first | (rw [camPx_f (by assumption)]; simp only [gvA_f, zRay, zV]; done) | (rw [camPx_t (by assumption)]; simp only [gvA_t, gvA_t, gvA_f, zV, zRay, zB, Bool.true_and, Bool.false_and, Bool.and_true, Bool.and_false, h2, h4, h6, h8, h10, h12, h14, c36]; done) | exact camPx_f (by assumption) | exact camPx_t (by assumption) | (rw [camPx_f (by assumption)]; rfl) | assumption | (simp only [gvA_t, gvA_f, zV, zRay, zB, Bool.true_and, Bool.false_and, Bool.and_true, Bool.and_false, h2, h4, h6, h8, h10, h12, h14, c36]; done)
    have x43 : cf .f32 0 = (gvA zRay (camPx A_c x y) (rayC A_c x y)).frm.x := by first | (rw [camPx_f (by assumption)]; simp only [gvA_f, zRay, zV]; done) | (rw [camPx_t (by assumption)]; simp only [gvA_t, gvA_t, gvA_f, zV, zRay, zB, Bool.true_and, Bool.false_and, Bool.and_true, Bool.and_false, h2, h4, h6, h8, h10, h12, h14, c36]; done) | exact camPx_f (by assumption) | exact camPx_t (by assumption) | (rw [camPx_f (by assumption)]; rfl) | assumption | (simp only [gvA_t, gvA_f, zV, zRay, zB, Bool.true_and, Bool.false_and, Bool.and_true, Bool.and_false, h2, h4, h6, h8, h10, h12, h14, c36]; done)
    have x44 : cf .f32 0 = (gvA zRay (camPx A_c x y) (rayC A_c x y)).frm.y := by first | (rw [camPx_f (by assumption)]; simp only [gvA_f, zRay, zV]; done) | (rw [camPx_t (by assumption)]; simp only [gvA_t, gvA_t, gvA_f, zV, zRay, zB, Bool.true_and, Bool.false_and, Bool.and_true, Bool.and_false, h2, h4, h6, h8, h10, h12, h14, c36]; done) | exact camPx_f (by assumption) | exact camPx_t (by assumption) | (rw [camPx_f (by assumption)]; rfl) | assumption | (simp only [gvA_t, gvA_f, zV, zRay, zB, Bool.true_and, Bool.false_and, Bool.and_true, Bool.and_false, h2, h4, h6, h8, h10, h12, h14, c36]; done)
    have x45 : cf .f32 0 = (gvA zRay (camPx A_c x y) (rayC A_c x y)).frm.z := by first | (rw [camPx_f (by assumption)]; simp only [gvA_f, zRay, zV]; done) | (rw [camPx_t (by assumption)]; simp only [gvA_t, gvA_t, gvA_f, zV, zRay, zB, Bool.true_and, Bool.false_and, Bool.and_true, Bool.and_false, h2, h4, h6, h8, h10, h12, h14, c36]; done) | exact camPx_f (by assumption) | exact camPx_t (by assumption) | (rw [camPx_f (by assumption)]; rfl) | assumption | (simp only [gvA_t, gvA_f, zV, zRay, zB, Bool.true_and, Bool.false_and, Bool.and_true, Bool.and_false, h2, h4, h6, h8, h10, h12, h14, c36]; done)
    have x46 : cf .f32 0 = (gvA zRay (camPx A_c x y) (rayC A_c x y)).way.x := by first | (rw [camPx_f (by assumption)]; simp only [gvA_f, zRay, zV]; done) | (rw [camPx_t (by assumption)]; simp only [gvA_t, gvA_t, gvA_f, zV, zRay, zB, Bool.true_and, Bool.false_and, Bool.and_true, Bool.and_false, h2, h4, h6, h8, h10, h12, h14, c36]; done) | exact camPx_f (by assumption) | exact camPx_t (by assumption) | (rw [camPx_f (by assumption)]; rfl) | assumption | (simp only [gvA_t, gvA_f, zV, zRay, zB, Bool.true_and, Bool.false_and, Bool.and_true, Bool.and_false, h2, h4, h6, h8, h10, h12, h14, c36]; done)
    have x47 : cf .f32 0 = (gvA zRay (camPx A_c x y) (rayC A_c x y)).way.y := by first | (rw [camPx_f (by assumption)]; simp only [gvA_f, zRay, zV]; done) | (rw [camPx_t (by assumption)]; simp only [gvA_t, gvA_t, gvA_f, zV, zRay, zB, Bool.true_and, Bool.false_and, Bool.and_true, Bool.and_false, h2, h4, h6, h8, h10, h12, h14, c36]; done) | exact camPx_f (by assumption) | exact camPx_t (by assumption) | (rw [camPx_f (by assumption)]; rfl) | assumption | (simp only [gvA_t, gvA_f, zV, zRay, zB, Bool.true_and, Bool.false_and, Bool.and_true, Bool.and_false, h2, h4, h6, h8, h10, h12, h14, c36]; done)
    have x48 : cf .f32 0 = (gvA zRay (camPx A_c x y) (rayC A_c x y)).way.z := by first | (rw [camPx_f (by assumption)]; simp only [gvA_f, zRay, zV]; done) | (rw [camPx_t (by assumption)]; simp only [gvA_t, gvA_t, gvA_f, zV, zRay, zB, Bool.true_and, Bool.false_and, Bool.and_true, Bool.and_false, h2, h4, h6, h8, h10, h12, h14, c36]; done) | exact camPx_f (by assumption) | exact camPx_t (by assumption) | (rw [camPx_f (by assumption)]; rfl) | assumption | (simp only [gvA_t, gvA_f, zV, zRay, zB, Bool.true_and, Bool.false_and, Bool.and_true, Bool.and_false, h2, h4, h6, h8, h10, h12, h14, c36]; done)
    exact ⟨[(Fl 0), (Fl 0), (Fl 0), (Fl 0), (Fl 0), (Fl 0)], (by first | rfl | rw [x42]), ⟨0, 0, 0, 0, 0, 0, rfl, x43, x44, x45, x46, x47, x48⟩⟩
  rw [Bool.not_eq_false'] at c36
  have c36' := c36
  refine wp_skip (hK31 _ _ ?_)
  refine wp_seq_k fun K49 hK49 => ?_
  refine wp_region_lit ?_
  refine q_is (l' := [(.agg #[(Fl r1), (Fl r3), (Fl r5), (Fl r7), (Fl r9), (Fl r11), (Fl r13), (Iv A_c.width), (Iv A_c.height)]), (Iv x), (Iv y), (Pt b16 0), Ud, Ud, (Pt b23 0), (Bo false), (Iv x), (Iv y), (Bo (camPx A_c x y)), (Bo (!(camPx A_c x y))), Ud, (Iv x), Ud, Ud]) rfl rfl (does_move (u := (Iv x)) (ev rfl)) rfl ?_
  refine q_is (l' := [(.agg #[(Fl r1), (Fl r3), (Fl r5), (Fl r7), (Fl r9), (Fl r11), (Fl r13), (Iv A_c.width), (Iv A_c.height)]), (Iv x), (Iv y), (Pt b16 0), Ud, Ud, (Pt b23 0), (Bo false), (Iv x), (Iv y), (Bo (camPx A_c x y)), (Bo (!(camPx A_c x y))), Ud, (Iv x), (Iv y), Ud]) rfl rfl (does_move (u := (Iv y)) (ev rfl)) rfl ?_
  refine seqd rfl rfl (does_call (args := #[(Pt b16 0), (Iv x), (Iv y)]) cal73 (evs rfl) (c_impl_Camera_ray b16 0 [(Fl r1), (Fl r3), (Fl r5), (Fl r7), (Fl r9), (Fl r11), (Fl r13), (Iv A_c.width), (Iv A_c.height)] A_c x y _ (Blk.cells ((hB18.ext E26).ext E33)) ⟨r1, r3, r5, r7, r9, r11, r13, rfl, h2, h4, h6, h8, h10, h12, h14⟩)) ?_; rintro _ w51 ⟨E50, ⟨_, rfl, ⟨r52, r54, r56, r58, r60, r62, rfl, h53, h55, h57, h59, h61, h63⟩⟩⟩
  have X64 := Ext.gr X35 E50
  show wpList _ _ _ _ (fr [(.agg #[(Fl r1), (Fl r3), (Fl r5), (Fl r7), (Fl r9), (Fl r11), (Fl r13), (Iv A_c.width), (Iv A_c.height)]), (Iv x), (Iv y), (Pt b16 0), Ud, Ud, (Pt b23 0), (Bo false), (Iv x), (Iv y), (Bo (camPx A_c x y)), (Bo (!(camPx A_c x y))), Ud, (Iv x), (Iv y), (.agg #[(Fl r52), (Fl r54), (Fl r56), (Fl r58), (Fl r60), (Fl r62)])]) _
  refine seqn rfl rfl (does_store (n := 6) (cs := [(Fl 0), (Fl 0), (Fl 0), (Fl 0), (Fl 0), (Fl 0)]) (u := (.agg #[(Fl r52), (Fl r54), (Fl r56), (Fl r58), (Fl r60), (Fl r62)])) (ev rfl) (ev rfl) Try.sizeOf64 rfl ((hB25.ext E33).ext E50) (Nat.le_of_ble_eq_true rfl) rfl) ?_; rintro _ w67 ⟨rfl, W65, hB66⟩
  change Blk _ _ [(Fl r52), (Fl r54), (Fl r56), (Fl r58), (Fl r60), (Fl r62)] at hB66
  have X68 := Below.wr X64 W65 g29
  refine q_is (l' := [(.agg #[(Fl r1), (Fl r3), (Fl r5), (Fl r7), (Fl r9), (Fl r11), (Fl r13), (Iv A_c.width), (Iv A_c.height)]), (Iv x), (Iv y), (Pt b16 0), Ud, Ud, (Pt b23 0), (Bo true), (Iv x), (Iv y), (Bo (camPx A_c x y)), (Bo (!(camPx A_c x y))), Ud, (Iv x), (Iv y), (.agg #[(Fl r52), (Fl r54), (Fl r56), (Fl r58), (Fl r60), (Fl r62)])]) rfl rfl (does_assign (u := (Bo true)) (ev rfl)) rfl ?_
  refine wpList_nil (hK49 _ _ ?_)
  refine wp_ret ?_
  refine ret_val (v := (.tuple #[(.agg #[(Fl r52), (Fl r54), (Fl r56), (Fl r58), (Fl r60), (Fl r62)]), (Bo true)])) (res_CT rfl (slot rfl) (run_loadAgg (cs := [(Fl r52), (Fl r54), (Fl r56), (Fl r58), (Fl r60), (Fl r62)]) Try.isAgg64 Try.sizeOf64 (Blk.cells hB66) rfl) (slot rfl)) X68 ?_
  try simp only [h2, h4, h6, h8, h10, h12, h14, h53, h55, h57, h59, h61, h63] at c36
  have x69 : (camPx A_c x y) = true := by first | (rw [camPx_f (by assumption)]; simp only [gvA_f, zRay, zV]; done) | (rw [camPx_t (by assumption)]; simp only [gvA_t, gvA_t, gvA_f, zV, zRay, zB, Bool.true_and, Bool.false_and, Bool.and_true, Bool.and_false, h2, h4, h6, h8, h10, h12, h14, h53, h55, h57, h59, h61, h63, c36]; done) | exact camPx_f (by assumption) | exact camPx_t (by assumption) | (rw [camPx_f (by assumption)]; rfl) | assumption | (simp only [gvA_t, gvA_f, zV, zRay, zB, Bool.true_and, Bool.false_and, Bool.and_true, Bool.and_false, h2, h4, h6, h8, h10, h12, h14, h53, h55, h57, h59, h61, h63, c36]; done)
  have x70 : cf .f32 r52 = (gvA zRay (camPx A_c x y) (rayC A_c x y)).frm.x := by first | (rw [camPx_f (by assumption)]; simp only [gvA_f, zRay, zV]; done) | (rw [camPx_t (by assumption)]; simp only [gvA_t, gvA_t, gvA_f, zV, zRay, zB, Bool.true_and, Bool.false_and, Bool.and_true, Bool.and_false, h2, h4, h6, h8, h10, h12, h14, h53, h55, h57, h59, h61, h63, c36]; done) | exact camPx_f (by assumption) | exact camPx_t (by assumption) | (rw [camPx_f (by assumption)]; rfl) | assumption | (simp only [gvA_t, gvA_f, zV, zRay, zB, Bool.true_and, Bool.false_and, Bool.and_true, Bool.and_false, h2, h4, h6, h8, h10, h12, h14, h53, h55, h57, h59, h61, h63, c36]; done)
  have x71 : cf .f32 r54 = (gvA zRay (camPx A_c x y) (rayC A_c x y)).frm.y := by first | (rw [camPx_f (by assumption)]; simp only [gvA_f, zRay, zV]; done) | (rw [camPx_t (by assumption)]; simp only [gvA_t, gvA_t, gvA_f, zV, zRay, zB, Bool.true_and, Bool.false_and, Bool.and_true, Bool.and_false, h2, h4, h6, h8, h10, h12, h14, h53, h55, h57, h59, h61, h63, c36]; done) | exact camPx_f (by assumption) | exact camPx_t (by assumption) | (rw [camPx_f (by assumption)]; rfl) | assumption | (simp only [gvA_t, gvA_f, zV, zRay, zB, Bool.true_and, Bool.false_and, Bool.and_true, Bool.and_false, h2, h4, h6, h8, h10, h12, h14, h53, h55, h57, h59, h61, h63, c36]; done)
  have x72 : cf .f32 r56 = (gvA zRay (camPx A_c x y) (rayC A_c x y)).frm.z := by first | (rw [camPx_f (by assumption)]; simp only [gvA_f, zRay, zV]; done) | (rw [camPx_t (by assumption)]; simp only [gvA_t, gvA_t, gvA_f, zV, zRay, zB, Bool.true_and, Bool.false_and, Bool.and_true, Bool.and_false, h2, h4, h6, h8, h10, h12, h14, h53, h55, h57, h59, h61, h63, c36]; done) | exact camPx_f (by assumption) | exact camPx_t (by assumption) | (rw [camPx_f (by assumption)]; rfl) | assumption | (simp only [gvA_t, gvA_f, zV, zRay, zB, Bool.true_and, Bool.false_and, Bool.and_true, Bool.and_false, h2, h4, h6, h8, h10, h12, h14, h53, h55, h57, h59, h61, h63, c36]; done)
  have x73 : cf .f32 r58 = (gvA zRay (camPx A_c x y) (rayC A_c x y)).way.x := by first | (rw [camPx_f (by assumption)]; simp only [gvA_f, zRay, zV]; done) | (rw [camPx_t (by assumption)]; simp only [gvA_t, gvA_t, gvA_f, zV, zRay, zB, Bool.true_and, Bool.false_and, Bool.and_true, Bool.and_false, h2, h4, h6, h8, h10, h12, h14, h53, h55, h57, h59, h61, h63, c36]; done) | exact camPx_f (by assumption) | exact camPx_t (by assumption) | (rw [camPx_f (by assumption)]; rfl) | assumption | (simp only [gvA_t, gvA_f, zV, zRay, zB, Bool.true_and, Bool.false_and, Bool.and_true, Bool.and_false, h2, h4, h6, h8, h10, h12, h14, h53, h55, h57, h59, h61, h63, c36]; done)
  have x74 : cf .f32 r60 = (gvA zRay (camPx A_c x y) (rayC A_c x y)).way.y := by first | (rw [camPx_f (by assumption)]; simp only [gvA_f, zRay, zV]; done) | (rw [camPx_t (by assumption)]; simp only [gvA_t, gvA_t, gvA_f, zV, zRay, zB, Bool.true_and, Bool.false_and, Bool.and_true, Bool.and_false, h2, h4, h6, h8, h10, h12, h14, h53, h55, h57, h59, h61, h63, c36]; done) | exact camPx_f (by assumption) | exact camPx_t (by assumption) | (rw [camPx_f (by assumption)]; rfl) | assumption | (simp only [gvA_t, gvA_f, zV, zRay, zB, Bool.true_and, Bool.false_and, Bool.and_true, Bool.and_false, h2, h4, h6, h8, h10, h12, h14, h53, h55, h57, h59, h61, h63, c36]; done)
  have x75 : cf .f32 r62 = (gvA zRay (camPx A_c x y) (rayC A_c x y)).way.z := by first | (rw [camPx_f (by assumption)]; simp only [gvA_f, zRay, zV]; done) | (rw [camPx_t (by assumption)]; simp only [gvA_t, gvA_t, gvA_f, zV, zRay, zB, Bool.true_and, Bool.false_and, Bool.and_true, Bool.and_false, h2, h4, h6, h8, h10, h12, h14, h53, h55, h57, h59, h61, h63, c36]; done) | exact camPx_f (by assumption) | exact camPx_t (by assumption) | (rw [camPx_f (by assumption)]; rfl) | assumption | (simp only [gvA_t, gvA_f, zV, zRay, zB, Bool.true_and, Bool.false_and, Bool.and_true, Bool.and_false, h2, h4, h6, h8, h10, h12, h14, h53, h55, h57, h59, h61, h63, c36]; done)
  exact ⟨[(Fl r52), (Fl r54), (Fl r56), (Fl r58), (Fl r60), (Fl r62)], (by first | rfl | rw [x69]), ⟨r52, r54, r56, r58, r60, r62, rfl, x70, x71, x72, x73, x74, x75⟩⟩

/- laws.sameFloat -/
theorem c_laws_sameFloat (x : Nat) (y : Nat) (w : World) : Gives Try.prog 45 #[(Fd x), (Fd y)] w (fun v w' => v = (Bo (sameF (cf .f64 x) (cf .f64 y)))) := by
  refine enter [(Fd x), (Fd y), Ud, Ud, Ud, Ud, Ud, Ud, Ud, Ud, Ud, Ud, Ud, Ud, Ud, Ud, Ud, Ud, Ud, Ud, Ud, Ud, Ud, Ud, Ud, Ud, Ud, Ud, Ud, Ud, Ud, Ud, Ud, Ud, Ud, Ud, Ud] Try.func45 rfl Try.ntmps45 rfl ?_
  refine wp_seq_k fun K1 hK1 => ?_
  refine wp_region_lit ?_
  refine q_is (l' := [(Fd x), (Fd y), Ud, Ud, (Bo false), Ud, Ud, Ud, Ud, Ud, Ud, Ud, Ud, Ud, Ud, Ud, Ud, Ud, Ud, Ud, Ud, Ud, Ud, Ud, Ud, Ud, Ud, Ud, Ud, Ud, Ud, Ud, Ud, Ud, Ud, Ud, Ud]) rfl rfl (does_assign (u := (Bo false)) (ev rfl)) rfl ?_
  refine wpList_nil (hK1 _ _ ?_)
  refine wp_seq_k fun K2 hK2 => ?_
  refine wp_seq_k fun K3 hK3 => ?_
  obtain ⟨β1, hβ1⟩ : ∃ b : Bool, b = (fcmp .neq (ford .f64 (cf .f64 x) (cf .f64 x))) := ⟨_, rfl⟩
  obtain ⟨β2, hβ2⟩ : ∃ b : Bool, b = (fcmp .neq (ford .f64 (cf .f64 y) (cf .f64 y))) := ⟨_, rfl⟩
  refine region_text (
    [Fact.pure [] (fun v => v = (Fd x)),
    Fact.pure [] (fun v => v = (Fd x)),
    Fact.pure [5, 6] (fun v => v = (Bo β1)),
    Fact.pure [7] (fun v => v = (Bo β1)),
    Fact.pure [8] (fun v => β1 = false → v = (Fd y)),
    Fact.pure [8] (fun v => β1 = false → v = (Fd y)),
    Fact.pure [9, 10, 8] (fun v => β1 = false → v = (Bo β2)),
    Fact.pure [8, 11] (fun v => v = (Bo (β1 || β2)))]) (by simp [Fact.pure, Fact.mem]) ?_
  refine RW_d (fun v4 => [(Fd x), (Fd y), Ud, Ud, (Bo false), v4, Ud, Ud, Ud, Ud, Ud, Ud, Ud, Ud, Ud, Ud, Ud, Ud, Ud, Ud, Ud, Ud, Ud, Ud, Ud, Ud, Ud, Ud, Ud, Ud, Ud, Ud, Ud, Ud, Ud, Ud, Ud]) rfl (fun _ => rfl) (fun u hu hF => ?_) (fun v4 => ?_)
  · clear hF
    refine doesG_un rfl ?_
    refine (does_move (u := (Fd x)) (ev rfl)).mono ?_; rintro _ _ ⟨rfl, rfl⟩
    exact ⟨rfl, Ext.refl _⟩
  refine RW_d (fun v5 => [(Fd x), (Fd y), Ud, Ud, (Bo false), v4, v5, Ud, Ud, Ud, Ud, Ud, Ud, Ud, Ud, Ud, Ud, Ud, Ud, Ud, Ud, Ud, Ud, Ud, Ud, Ud, Ud, Ud, Ud, Ud, Ud, Ud, Ud, Ud, Ud, Ud, Ud]) rfl (fun _ => rfl) (fun u hu hF => ?_) (fun v5 => ?_)
  · clear hF
    refine doesG_un rfl ?_
    refine (does_move (u := (Fd x)) (ev rfl)).mono ?_; rintro _ _ ⟨rfl, rfl⟩
    exact ⟨rfl, Ext.refl _⟩
  refine RW_d (fun v6 => [(Fd x), (Fd y), Ud, Ud, (Bo false), v4, v5, v6, Ud, Ud, Ud, Ud, Ud, Ud, Ud, Ud, Ud, Ud, Ud, Ud, Ud, Ud, Ud, Ud, Ud, Ud, Ud, Ud, Ud, Ud, Ud, Ud, Ud, Ud, Ud, Ud, Ud]) rfl (fun _ => rfl) (fun u hu hF => ?_) (fun v6 => ?_)
  · have h5_ : v4 = (Fd x) := hF.1
    have h6_ : v5 = (Fd x) := hF.2.1
    clear hF
    refine doesG_un rfl ?_
    obtain rfl := h5_
    obtain rfl := h6_
    refine (does_fcmp (.inr (.inl rfl)) (ev rfl) (ev rfl)).mono ?_; rintro _ _ ⟨rfl, rfl⟩
    exact ⟨(by first | rfl | (show _ = _; simp only [hβ1])), Ext.refl _⟩
  refine RW_d (fun v7 => [(Fd x), (Fd y), Ud, Ud, (Bo false), v4, v5, v6, v7, Ud, Ud, Ud, Ud, Ud, Ud, Ud, Ud, Ud, Ud, Ud, Ud, Ud, Ud, Ud, Ud, Ud, Ud, Ud, Ud, Ud, Ud, Ud, Ud, Ud, Ud, Ud, Ud]) rfl (fun _ => rfl) (fun u hu hF => ?_) (fun v7 => ?_)
  · have h7_ : v6 = (Bo β1) := hF.1
    clear hF
    refine doesG_un rfl ?_
    obtain rfl := h7_
    refine (does_move (u := (Bo β1)) (ev rfl)).mono ?_; rintro _ _ ⟨rfl, rfl⟩
    exact ⟨rfl, Ext.refl _⟩
  refine RW_d (fun v8 => [(Fd x), (Fd y), Ud, Ud, (Bo false), v4, v5, v6, v7, v8, Ud, Ud, Ud, Ud, Ud, Ud, Ud, Ud, Ud, Ud, Ud, Ud, Ud, Ud, Ud, Ud, Ud, Ud, Ud, Ud, Ud, Ud, Ud, Ud, Ud, Ud, Ud]) rfl (fun _ => rfl) (fun u hu hF => ?_) (fun v8 => ?_)
  · have h8_ : v7 = (Bo β1) := hF.1
    clear hF
    obtain rfl := h8_
    refine doesG_g (b := β1) rfl (yld rfl rfl) (fun hg1 => ?_) (fun hc => ⟨fun hg1 => absurd hg1 hc, Ext.refl _⟩)
    refine (does_move (u := (Fd y)) (ev rfl)).mono ?_; rintro _ _ ⟨rfl, rfl⟩
    exact ⟨fun _ => rfl, Ext.refl _⟩
  refine RW_d (fun v9 => [(Fd x), (Fd y), Ud, Ud, (Bo false), v4, v5, v6, v7, v8, v9, Ud, Ud, Ud, Ud, Ud, Ud, Ud, Ud, Ud, Ud, Ud, Ud, Ud, Ud, Ud, Ud, Ud, Ud, Ud, Ud, Ud, Ud, Ud, Ud, Ud, Ud]) rfl (fun _ => rfl) (fun u hu hF => ?_) (fun v9 => ?_)
  · have h8_ : v7 = (Bo β1) := hF.1
    clear hF
    obtain rfl := h8_
    refine doesG_g (b := β1) rfl (yld rfl rfl) (fun hg1 => ?_) (fun hc => ⟨fun hg1 => absurd hg1 hc, Ext.refl _⟩)
    refine (does_move (u := (Fd y)) (ev rfl)).mono ?_; rintro _ _ ⟨rfl, rfl⟩
    exact ⟨fun _ => rfl, Ext.refl _⟩
  refine RW_d (fun v10 => [(Fd x), (Fd y), Ud, Ud, (Bo false), v4, v5, v6, v7, v8, v9, v10, Ud, Ud, Ud, Ud, Ud, Ud, Ud, Ud, Ud, Ud, Ud, Ud, Ud, Ud, Ud, Ud, Ud, Ud, Ud, Ud, Ud, Ud, Ud, Ud, Ud]) rfl (fun _ => rfl) (fun u hu hF => ?_) (fun v10 => ?_)
  · have h9_ : β1 = false → v8 = (Fd y) := hF.1
    have h10_ : β1 = false → v9 = (Fd y) := hF.2.1
    have h8_ : v7 = (Bo β1) := hF.2.2.1
    clear hF
    obtain rfl := h8_
    refine doesG_g (b := β1) rfl (yld rfl rfl) (fun hg1 => ?_) (fun hc => ⟨fun hg1 => absurd hg1 hc, Ext.refl _⟩)
    obtain rfl := h9_ hg1
    obtain rfl := h10_ hg1
    refine (does_fcmp (.inr (.inl rfl)) (ev rfl) (ev rfl)).mono ?_; rintro _ _ ⟨rfl, rfl⟩
    exact ⟨fun _ => (by first | rfl | (show _ = _; simp only [hβ2])), Ext.refl _⟩
  refine RW_d (fun v11 => [(Fd x), (Fd y), Ud, Ud, (Bo false), v4, v5, v6, v7, v8, v9, v10, v11, Ud, Ud, Ud, Ud, Ud, Ud, Ud, Ud, Ud, Ud, Ud, Ud, Ud, Ud, Ud, Ud, Ud, Ud, Ud, Ud, Ud, Ud, Ud, Ud]) rfl (fun _ => rfl) (fun u hu hF => ?_) (fun v11 => ?_)
  · have h8_ : v7 = (Bo β1) := hF.1
    have h11_ : β1 = false → v10 = (Bo β2) := hF.2.1
    clear hF
    refine doesG_un rfl ?_
    skip
    obtain rfl := h8_
    refine (does_pick (b := β1) (ev rfl) (ev rfl) (ev rfl)).mono ?_; rintro _ _ ⟨rfl, rfl⟩; refine ⟨?_, Ext.refl _⟩; skip
    cases hbb : β1 <;> simp [hbb] at h11_ ⊢
    all_goals (first | rfl | (subst h11_; rfl) | simp_all)
  refine RW_fin ?_; intro w12 E13 hP14
  obtain ⟨⟨⟨⟨⟨⟨⟨⟨-, -⟩, -⟩, -⟩, -⟩, -⟩, -⟩, -⟩, q15⟩ := hP14
  have X16 := Ext.gr (Ext.refl w) E13
  have q15 : v11 = (Bo (β1 || β2)) := q15
  obtain rfl := q15
  show wpList _ _ _ _ (fr [(Fd x), (Fd y), Ud, Ud, (Bo false), v4, v5, v6, v7, v8, v9, v10, (Bo (β1 || β2)), Ud, Ud, Ud, Ud, Ud, Ud, Ud, Ud, Ud, Ud, Ud, Ud, Ud, Ud, Ud, Ud, Ud, Ud, Ud, Ud, Ud, Ud, Ud, Ud]) _
  refine wpList_nil (hK3 _ _ ?_)
  refine wp_cond_split (t := β1 || β2) (ev rfl) (fun c17 => ?_) (fun c17 => ?_)
  · have c17' := c17
    (try simp only [hβ1, hβ2] at c17')
    (try simp only [icmp, Bool.and_eq_true, Bool.or_eq_true, Bool.and_eq_false_iff, Bool.or_eq_false_iff, Bool.not_eq_true', Bool.not_eq_false', decide_eq_true_eq, decide_eq_false_iff_not, beq_iff_eq, bne_iff_ne, beq_eq_false_iff_ne, bne_eq_false_iff_eq] at c17')
    refine wp_seq_k fun K18 hK18 => ?_
    obtain ⟨β3, hβ3⟩ : ∃ b : Bool, b = (fcmp .neq (ford .f64 (cf .f64 x) (cf .f64 x))) := ⟨_, rfl⟩
    obtain ⟨β4, hβ4⟩ : ∃ b : Bool, b = (fcmp .neq (ford .f64 (cf .f64 y) (cf .f64 y))) := ⟨_, rfl⟩
    refine region_text (
      [Fact.pure [] (fun v => v = (Fd x)),
    Fact.pure [] (fun v => v = (Fd x)),
    Fact.pure [13, 14] (fun v => v = (Bo β3)),
    Fact.pure [15] (fun v => v = (Bo β3)),
    Fact.pure [16] (fun v => β3 = true → v = (Fd y)),
    Fact.pure [16] (fun v => β3 = true → v = (Fd y)),
    Fact.pure [17, 18, 16] (fun v => β3 = true → v = (Bo β4)),
    Fact.pure [16, 19] (fun v => v = (Bo (β3 && β4)))]) (by simp [Fact.pure, Fact.mem]) ?_
    refine RW_d (fun v19 => [(Fd x), (Fd y), Ud, Ud, (Bo false), v4, v5, v6, v7, v8, v9, v10, (Bo (β1 || β2)), v19, Ud, Ud, Ud, Ud, Ud, Ud, Ud, Ud, Ud, Ud, Ud, Ud, Ud, Ud, Ud, Ud, Ud, Ud, Ud, Ud, Ud, Ud, Ud]) rfl (fun _ => rfl) (fun u hu hF => ?_) (fun v19 => ?_)
    · clear hF
      refine doesG_un rfl ?_
      refine (does_move (u := (Fd x)) (ev rfl)).mono ?_; rintro _ _ ⟨rfl, rfl⟩
      exact ⟨rfl, Ext.refl _⟩
    refine RW_d (fun v20 => [(Fd x), (Fd y), Ud, Ud, (Bo false), v4, v5, v6, v7, v8, v9, v10, (Bo (β1 || β2)), v19, v20, Ud, Ud, Ud, Ud, Ud, Ud, Ud, Ud, Ud, Ud, Ud, Ud, Ud, Ud, Ud, Ud, Ud, Ud, Ud, Ud, Ud, Ud]) rfl (fun _ => rfl) (fun u hu hF => ?_) (fun v20 => ?_)
    · clear hF
      refine doesG_un rfl ?_
      refine (does_move (u := (Fd x)) (ev rfl)).mono ?_; rintro _ _ ⟨rfl, rfl⟩
      exact ⟨rfl, Ext.refl _⟩
    refine RW_d (fun v21 => [(Fd x), (Fd y), Ud, Ud, (Bo false), v4, v5, v6, v7, v8, v9, v10, (Bo (β1 || β2)), v19, v20, v21, Ud, Ud, Ud, Ud, Ud, Ud, Ud, Ud, Ud, Ud, Ud, Ud, Ud, Ud, Ud, Ud, Ud, Ud, Ud, Ud, Ud]) rfl (fun _ => rfl) (fun u hu hF => ?_) (fun v21 => ?_)
    · have h13_ : v19 = (Fd x) := hF.1
      have h14_ : v20 = (Fd x) := hF.2.1
      clear hF
      refine doesG_un rfl ?_
      obtain rfl := h13_
      obtain rfl := h14_
      refine (does_fcmp (.inr (.inl rfl)) (ev rfl) (ev rfl)).mono ?_; rintro _ _ ⟨rfl, rfl⟩
      exact ⟨(by first | rfl | (show _ = _; simp only [hβ3])), Ext.refl _⟩
    refine RW_d (fun v22 => [(Fd x), (Fd y), Ud, Ud, (Bo false), v4, v5, v6, v7, v8, v9, v10, (Bo (β1 || β2)), v19, v20, v21, v22, Ud, Ud, Ud, Ud, Ud, Ud, Ud, Ud, Ud, Ud, Ud, Ud, Ud, Ud, Ud, Ud, Ud, Ud, Ud, Ud]) rfl (fun _ => rfl) (fun u hu hF => ?_) (fun v22 => ?_)
    · have h15_ : v21 = (Bo β3) := hF.1
      clear hF
      refine doesG_un rfl ?_
      obtain rfl := h15_
      refine (does_move (u := (Bo β3)) (ev rfl)).mono ?_; rintro _ _ ⟨rfl, rfl⟩
      exact ⟨rfl, Ext.refl _⟩
    refine RW_d (fun v23 => [(Fd x), (Fd y), Ud, Ud, (Bo false), v4, v5, v6, v7, v8, v9, v10, (Bo (β1 || β2)), v19, v20, v21, v22, v23, Ud, Ud, Ud, Ud, Ud, Ud, Ud, Ud, Ud, Ud, Ud, Ud, Ud, Ud, Ud, Ud, Ud, Ud, Ud]) rfl (fun _ => rfl) (fun u hu hF => ?_) (fun v23 => ?_)
    · have h16_ : v22 = (Bo β3) := hF.1
      clear hF
      obtain rfl := h16_
      refine doesG_g (b := β3) rfl (yld rfl rfl) (fun hg1 => ?_) (fun hc => ⟨fun hg1 => absurd hg1 hc, Ext.refl _⟩)
      refine (does_move (u := (Fd y)) (ev rfl)).mono ?_; rintro _ _ ⟨rfl, rfl⟩
      exact ⟨fun _ => rfl, Ext.refl _⟩
    refine RW_d (fun v24 => [(Fd x), (Fd y), Ud, Ud, (Bo false), v4, v5, v6, v7, v8, v9, v10, (Bo (β1 || β2)), v19, v20, v21, v22, v23, v24, Ud, Ud, Ud, Ud, Ud, Ud, Ud, Ud, Ud, Ud, Ud, Ud, Ud, Ud, Ud, Ud, Ud, Ud]) rfl (fun _ => rfl) (fun u hu hF => ?_) (fun v24 => ?_)
    · have h16_ : v22 = (Bo β3) := hF.1
      clear hF
      obtain rfl := h16_
      refine doesG_g (b := β3) rfl (yld rfl rfl) (fun hg1 => ?_) (fun hc => ⟨fun hg1 => absurd hg1 hc, Ext.refl _⟩)
      refine (does_move (u := (Fd y)) (ev rfl)).mono ?_; rintro _ _ ⟨rfl, rfl⟩
      exact ⟨fun _ => rfl, Ext.refl _⟩
    refine RW_d (fun v25 => [(Fd x), (Fd y), Ud, Ud, (Bo false), v4, v5, v6, v7, v8, v9, v10, (Bo (β1 || β2)), v19, v20, v21, v22, v23, v24, v25, Ud, Ud, Ud, Ud, Ud, Ud, Ud, Ud, Ud, Ud, Ud, Ud, Ud, Ud, Ud, Ud, Ud]) rfl (fun _ => rfl) (fun u hu hF => ?_) (fun v25 => ?_)
    · have h17_ : β3 = true → v23 = (Fd y) := hF.1
      have h18_ : β3 = true → v24 = (Fd y) := hF.2.1
      have h16_ : v22 = (Bo β3) := hF.2.2.1
      clear hF
      obtain rfl := h16_
      refine doesG_g (b := β3) rfl (yld rfl rfl) (fun hg1 => ?_) (fun hc => ⟨fun hg1 => absurd hg1 hc, Ext.refl _⟩)
      obtain rfl := h17_ hg1
      obtain rfl := h18_ hg1
      refine (does_fcmp (.inr (.inl rfl)) (ev rfl) (ev rfl)).mono ?_; rintro _ _ ⟨rfl, rfl⟩
      exact ⟨fun _ => (by first | rfl | (show _ = _; simp only [hβ4])), Ext.refl _⟩
    refine RW_d (fun v26 => [(Fd x), (Fd y), Ud, Ud, (Bo false), v4, v5, v6, v7, v8, v9, v10, (Bo (β1 || β2)), v19, v20, v21, v22, v23, v24, v25, v26, Ud, Ud, Ud, Ud, Ud, Ud, Ud, Ud, Ud, Ud, Ud, Ud, Ud, Ud, Ud, Ud]) rfl (fun _ => rfl) (fun u hu hF => ?_) (fun v26 => ?_)
    · have h16_ : v22 = (Bo β3) := hF.1
      have h19_ : β3 = true → v25 = (Bo β4) := hF.2.1
      clear hF
      refine doesG_un rfl ?_
      skip
      obtain rfl := h16_
      refine (does_pick (b := β3) (ev rfl) (ev rfl) (ev rfl)).mono ?_; rintro _ _ ⟨rfl, rfl⟩; refine ⟨?_, Ext.refl _⟩; skip
      cases hbb : β3 <;> simp [hbb] at h19_ ⊢
      all_goals (first | rfl | (subst h19_; rfl) | simp_all)
    refine RW_fin ?_; intro w27 E28 hP29
    obtain ⟨⟨⟨⟨⟨⟨⟨⟨-, -⟩, -⟩, -⟩, -⟩, -⟩, -⟩, -⟩, q30⟩ := hP29
    have X31 := Ext.gr X16 E28
    have q30 : v26 = (Bo (β3 && β4)) := q30
    obtain rfl := q30
    show wpList _ _ _ _ (fr [(Fd x), (Fd y), Ud, Ud, (Bo false), v4, v5, v6, v7, v8, v9, v10, (Bo (β1 || β2)), v19, v20, v21, v22, v23, v24, v25, (Bo (β3 && β4)), Ud, Ud, Ud, Ud, Ud, Ud, Ud, Ud, Ud, Ud, Ud, Ud, Ud, Ud, Ud, Ud]) _
    refine q_is (l' := [(Fd x), (Fd y), Ud, Ud, (Bo (β3 && β4)), v4, v5, v6, v7, v8, v9, v10, (Bo (β1 || β2)), v19, v20, v21, v22, v23, v24, v25, (Bo (β3 && β4)), Ud, Ud, Ud, Ud, Ud, Ud, Ud, Ud, Ud, Ud, Ud, Ud, Ud, Ud, Ud, Ud]) rfl rfl (does_assign (u := (Bo (β3 && β4))) (ev rfl)) rfl ?_
    refine wpList_nil (hK18 _ _ ?_)
    refine wp_ret ?_
    dsimp only [Exit.then, Exit.inBlock]
    refine ret_val (v := (Bo (β3 && β4))) (res_T rfl (slot rfl)) X31 ?_
    try simp only [hβ1, hβ2, hβ3, hβ4] at c17
    have x32 : (sameF (cf .f64 x) (cf .f64 y)) = (β3 && β4) := by first | with_reducible rfl | (simp only [sameF, hβ1, hβ2, hβ3, hβ4, c17]; done) | (simp [sameF, hβ1, hβ2, hβ3, hβ4, c17]; done) | (revert c17; simp +contextual [sameF, hβ1, hβ2, hβ3, hβ4]; done) | (rcases c17' with hh | hh <;> simp only [hh, sameF, hβ1, hβ2, hβ3, hβ4, c17]; done) | (rcases c17' with hh | hh <;> simp_all [sameF]; done) | (rcases c17' with hh | hh | hh <;> simp_all [sameF]; done) | (rcases c17' with hh | hh | hh | hh <;> simp_all [sameF]; done) | (simp_all [sameF]; done) | rfl
    exact (by first | rfl | rw [x32])
  have c17' := c17
  (try simp only [hβ1, hβ2] at c17')
  (try simp only [icmp, Bool.and_eq_true, Bool.or_eq_true, Bool.and_eq_false_iff, Bool.or_eq_false_iff, Bool.not_eq_true', Bool.not_eq_false', decide_eq_true_eq, decide_eq_false_iff_not, beq_iff_eq, bne_iff_ne, beq_eq_false_iff_ne, bne_eq_false_iff_eq] at c17')
  refine wp_skip (hK2 _ _ ?_)
  refine wp_seq_k fun K33 hK33 => ?_
  refine wp_seq_k fun K34 hK34 => ?_
  obtain ⟨β5, hβ5⟩ : ∃ b : Bool, b = (fcmp .eql (ford .f64 (cf .f64 x) (cf .f64 0))) := ⟨_, rfl⟩
  obtain ⟨β6, hβ6⟩ : ∃ b : Bool, b = (fcmp .eql (ford .f64 (cf .f64 y) (cf .f64 0))) := ⟨_, rfl⟩
  refine region_text (
    [Fact.pure [] (fun v => v = (Fd x)),
    Fact.pure [21] (fun v => v = (Bo β5)),
    Fact.pure [22] (fun v => v = (Bo β5)),
    Fact.pure [23] (fun v => β5 = true → v = (Fd y)),
    Fact.pure [24, 23] (fun v => β5 = true → v = (Bo β6)),
    Fact.pure [23, 25] (fun v => v = (Bo (β5 && β6)))]) (by simp [Fact.pure, Fact.mem]) ?_
  refine RW_d (fun v35 => [(Fd x), (Fd y), Ud, Ud, (Bo false), v4, v5, v6, v7, v8, v9, v10, (Bo (β1 || β2)), Ud, Ud, Ud, Ud, Ud, Ud, Ud, Ud, v35, Ud, Ud, Ud, Ud, Ud, Ud, Ud, Ud, Ud, Ud, Ud, Ud, Ud, Ud, Ud]) rfl (fun _ => rfl) (fun u hu hF => ?_) (fun v35 => ?_)
  · clear hF
    refine doesG_un rfl ?_
    refine (does_move (u := (Fd x)) (ev rfl)).mono ?_; rintro _ _ ⟨rfl, rfl⟩
    exact ⟨rfl, Ext.refl _⟩
  refine RW_d (fun v36 => [(Fd x), (Fd y), Ud, Ud, (Bo false), v4, v5, v6, v7, v8, v9, v10, (Bo (β1 || β2)), Ud, Ud, Ud, Ud, Ud, Ud, Ud, Ud, v35, v36, Ud, Ud, Ud, Ud, Ud, Ud, Ud, Ud, Ud, Ud, Ud, Ud, Ud, Ud]) rfl (fun _ => rfl) (fun u hu hF => ?_) (fun v36 => ?_)
  · have h21_ : v35 = (Fd x) := hF.1
    clear hF
    refine doesG_un rfl ?_
    obtain rfl := h21_
    refine (does_fcmp (.inl rfl) (ev rfl) (ev rfl)).mono ?_; rintro _ _ ⟨rfl, rfl⟩
    exact ⟨(by first | rfl | (show _ = _; simp only [hβ5])), Ext.refl _⟩
  refine RW_d (fun v37 => [(Fd x), (Fd y), Ud, Ud, (Bo false), v4, v5, v6, v7, v8, v9, v10, (Bo (β1 || β2)), Ud, Ud, Ud, Ud, Ud, Ud, Ud, Ud, v35, v36, v37, Ud, Ud, Ud, Ud, Ud, Ud, Ud, Ud, Ud, Ud, Ud, Ud, Ud]) rfl (fun _ => rfl) (fun u hu hF => ?_) (fun v37 => ?_)
  · have h22_ : v36 = (Bo β5) := hF.1
    clear hF
    refine doesG_un rfl ?_
    obtain rfl := h22_
    refine (does_move (u := (Bo β5)) (ev rfl)).mono ?_; rintro _ _ ⟨rfl, rfl⟩
    exact ⟨rfl, Ext.refl _⟩
  refine RW_d (fun v38 => [(Fd x), (Fd y), Ud, Ud, (Bo false), v4, v5, v6, v7, v8, v9, v10, (Bo (β1 || β2)), Ud, Ud, Ud, Ud, Ud, Ud, Ud, Ud, v35, v36, v37, v38, Ud, Ud, Ud, Ud, Ud, Ud, Ud, Ud, Ud, Ud, Ud, Ud]) rfl (fun _ => rfl) (fun u hu hF => ?_) (fun v38 => ?_)
  · have h23_ : v37 = (Bo β5) := hF.1
    clear hF
    obtain rfl := h23_
    refine doesG_g (b := β5) rfl (yld rfl rfl) (fun hg1 => ?_) (fun hc => ⟨fun hg1 => absurd hg1 hc, Ext.refl _⟩)
    refine (does_move (u := (Fd y)) (ev rfl)).mono ?_; rintro _ _ ⟨rfl, rfl⟩
    exact ⟨fun _ => rfl, Ext.refl _⟩
  refine RW_d (fun v39 => [(Fd x), (Fd y), Ud, Ud, (Bo false), v4, v5, v6, v7, v8, v9, v10, (Bo (β1 || β2)), Ud, Ud, Ud, Ud, Ud, Ud, Ud, Ud, v35, v36, v37, v38, v39, Ud, Ud, Ud, Ud, Ud, Ud, Ud, Ud, Ud, Ud, Ud]) rfl (fun _ => rfl) (fun u hu hF => ?_) (fun v39 => ?_)
  · have h24_ : β5 = true → v38 = (Fd y) := hF.1
    have h23_ : v37 = (Bo β5) := hF.2.1
    clear hF
    obtain rfl := h23_
    refine doesG_g (b := β5) rfl (yld rfl rfl) (fun hg1 => ?_) (fun hc => ⟨fun hg1 => absurd hg1 hc, Ext.refl _⟩)
    obtain rfl := h24_ hg1
    refine (does_fcmp (.inl rfl) (ev rfl) (ev rfl)).mono ?_; rintro _ _ ⟨rfl, rfl⟩
    exact ⟨fun _ => (by first | rfl | (show _ = _; simp only [hβ6])), Ext.refl _⟩
  refine RW_d (fun v40 => [(Fd x), (Fd y), Ud, Ud, (Bo false), v4, v5, v6, v7, v8, v9, v10, (Bo (β1 || β2)), Ud, Ud, Ud, Ud, Ud, Ud, Ud, Ud, v35, v36, v37, v38, v39, v40, Ud, Ud, Ud, Ud, Ud, Ud, Ud, Ud, Ud, Ud]) rfl (fun _ => rfl) (fun u hu hF => ?_) (fun v40 => ?_)
  · have h23_ : v37 = (Bo β5) := hF.1
    have h25_ : β5 = true → v39 = (Bo β6) := hF.2.1
    clear hF
    refine doesG_un rfl ?_
    skip
    obtain rfl := h23_
    refine (does_pick (b := β5) (ev rfl) (ev rfl) (ev rfl)).mono ?_; rintro _ _ ⟨rfl, rfl⟩; refine ⟨?_, Ext.refl _⟩; skip
    cases hbb : β5 <;> simp [hbb] at h25_ ⊢
    all_goals (first | rfl | (subst h25_; rfl) | simp_all)
  refine RW_fin ?_; intro w41 E42 hP43
  obtain ⟨⟨⟨⟨⟨⟨-, -⟩, -⟩, -⟩, -⟩, -⟩, q44⟩ := hP43
  have X45 := Ext.gr X16 E42
  have q44 : v40 = (Bo (β5 && β6)) := q44
  obtain rfl := q44
  show wpList _ _ _ _ (fr [(Fd x), (Fd y), Ud, Ud, (Bo false), v4, v5, v6, v7, v8, v9, v10, (Bo (β1 || β2)), Ud, Ud, Ud, Ud, Ud, Ud, Ud, Ud, v35, v36, v37, v38, v39, (Bo (β5 && β6)), Ud, Ud, Ud, Ud, Ud, Ud, Ud, Ud, Ud, Ud]) _
  refine wpList_nil (hK34 _ _ ?_)
  refine wp_cond_split (t := β5 && β6) (ev rfl) (fun c46 => ?_) (fun c46 => ?_)
  · have c46' := c46
    (try simp only [hβ1, hβ2, hβ5, hβ6] at c46')
    (try simp only [icmp, Bool.and_eq_true, Bool.or_eq_true, Bool.and_eq_false_iff, Bool.or_eq_false_iff, Bool.not_eq_true', Bool.not_eq_false', decide_eq_true_eq, decide_eq_false_iff_not, beq_iff_eq, bne_iff_ne, beq_eq_false_iff_ne, bne_eq_false_iff_eq] at c46')
    refine wp_seq_k fun K47 hK47 => ?_
    refine wp_region_lit ?_
    refine q_is (l' := [(Fd x), (Fd y), Ud, Ud, (Bo false), v4, v5, v6, v7, v8, v9, v10, (Bo (β1 || β2)), Ud, Ud, Ud, Ud, Ud, Ud, Ud, Ud, v35, v36, v37, v38, v39, (Bo (β5 && β6)), (Fd x), Ud, Ud, Ud, Ud, Ud, Ud, Ud, Ud, Ud]) rfl rfl (does_move (u := (Fd x)) (ev rfl)) rfl ?_
    refine seqd rfl rfl (does_float (.inr (.inr (.inr rfl))) (ev rfl) (ev rfl)) ?_; rintro _ w51 ⟨r48, rfl, h49, E50⟩
    have X52 := Ext.gr X45 E50
    show wpList _ _ _ _ (fr [(Fd x), (Fd y), Ud, Ud, (Bo false), v4, v5, v6, v7, v8, v9, v10, (Bo (β1 || β2)), Ud, Ud, Ud, Ud, Ud, Ud, Ud, Ud, v35, v36, v37, v38, v39, (Bo (β5 && β6)), (Fd x), (Fd r48), Ud, Ud, Ud, Ud, Ud, Ud, Ud, Ud]) _
    refine q_is (l' := [(Fd x), (Fd y), Ud, Ud, (Bo false), v4, v5, v6, v7, v8, v9, v10, (Bo (β1 || β2)), Ud, Ud, Ud, Ud, Ud, Ud, Ud, Ud, v35, v36, v37, v38, v39, (Bo (β5 && β6)), (Fd x), (Fd r48), (Bo (fcmp .gtr (ford .f64 (cf .f64 r48) (cf .f64 0)))), Ud, Ud, Ud, Ud, Ud, Ud, Ud]) rfl rfl (does_fcmp (.inr (.inr (.inr (.inr (.inl rfl))))) (ev rfl) (ev rfl)) rfl ?_
    refine q_is (l' := [(Fd x), (Fd y), Ud, Ud, (Bo false), v4, v5, v6, v7, v8, v9, v10, (Bo (β1 || β2)), Ud, Ud, Ud, Ud, Ud, Ud, Ud, Ud, v35, v36, v37, v38, v39, (Bo (β5 && β6)), (Fd x), (Fd r48), (Bo (fcmp .gtr (ford .f64 (cf .f64 r48) (cf .f64 0)))), (Fd y), Ud, Ud, Ud, Ud, Ud, Ud]) rfl rfl (does_move (u := (Fd y)) (ev rfl)) rfl ?_
    refine seqd rfl rfl (does_float (.inr (.inr (.inr rfl))) (ev rfl) (ev rfl)) ?_; rintro _ w56 ⟨r53, rfl, h54, E55⟩
    have X57 := Ext.gr X52 E55
    show wpList _ _ _ _ (fr [(Fd x), (Fd y), Ud, Ud, (Bo false), v4, v5, v6, v7, v8, v9, v10, (Bo (β1 || β2)), Ud, Ud, Ud, Ud, Ud, Ud, Ud, Ud, v35, v36, v37, v38, v39, (Bo (β5 && β6)), (Fd x), (Fd r48), (Bo (fcmp .gtr (ford .f64 (cf .f64 r48) (cf .f64 0)))), (Fd y), (Fd r53), Ud, Ud, Ud, Ud, Ud]) _
    refine q_is (l' := [(Fd x), (Fd y), Ud, Ud, (Bo false), v4, v5, v6, v7, v8, v9, v10, (Bo (β1 || β2)), Ud, Ud, Ud, Ud, Ud, Ud, Ud, Ud, v35, v36, v37, v38, v39, (Bo (β5 && β6)), (Fd x), (Fd r48), (Bo (fcmp .gtr (ford .f64 (cf .f64 r48) (cf .f64 0)))), (Fd y), (Fd r53), (Bo (fcmp .gtr (ford .f64 (cf .f64 r53) (cf .f64 0)))), Ud, Ud, Ud, Ud]) rfl rfl (does_fcmp (.inr (.inr (.inr (.inr (.inl rfl))))) (ev rfl) (ev rfl)) rfl ?_
    refine q_is (l' := [(Fd x), (Fd y), Ud, Ud, (Bo false), v4, v5, v6, v7, v8, v9, v10, (Bo (β1 || β2)), Ud, Ud, Ud, Ud, Ud, Ud, Ud, Ud, v35, v36, v37, v38, v39, (Bo (β5 && β6)), (Fd x), (Fd r48), (Bo (fcmp .gtr (ford .f64 (cf .f64 r48) (cf .f64 0)))), (Fd y), (Fd r53), (Bo (fcmp .gtr (ford .f64 (cf .f64 r53) (cf .f64 0)))), (Bo ((fcmp .gtr (ford .f64 (cf .f64 r48) (cf .f64 0))) == (fcmp .gtr (ford .f64 (cf .f64 r53) (cf .f64 0))))), Ud, Ud, Ud]) rfl rfl (does_beq (p := (fcmp .gtr (ford .f64 (cf .f64 r48) (cf .f64 0)))) (q := (fcmp .gtr (ford .f64 (cf .f64 r53) (cf .f64 0)))) Try.underlying4 (ev rfl) (ev rfl)) rfl ?_
    refine q_is (l' := [(Fd x), (Fd y), Ud, Ud, (Bo ((fcmp .gtr (ford .f64 (cf .f64 r48) (cf .f64 0))) == (fcmp .gtr (ford .f64 (cf .f64 r53) (cf .f64 0))))), v4, v5, v6, v7, v8, v9, v10, (Bo (β1 || β2)), Ud, Ud, Ud, Ud, Ud, Ud, Ud, Ud, v35, v36, v37, v38, v39, (Bo (β5 && β6)), (Fd x), (Fd r48), (Bo (fcmp .gtr (ford .f64 (cf .f64 r48) (cf .f64 0)))), (Fd y), (Fd r53), (Bo (fcmp .gtr (ford .f64 (cf .f64 r53) (cf .f64 0)))), (Bo ((fcmp .gtr (ford .f64 (cf .f64 r48) (cf .f64 0))) == (fcmp .gtr (ford .f64 (cf .f64 r53) (cf .f64 0))))), Ud, Ud, Ud]) rfl rfl (does_assign (u := (Bo ((fcmp .gtr (ford .f64 (cf .f64 r48) (cf .f64 0))) == (fcmp .gtr (ford .f64 (cf .f64 r53) (cf .f64 0)))))) (ev rfl)) rfl ?_
    refine wpList_nil (hK47 _ _ ?_)
    refine wp_ret ?_
    dsimp only [Exit.then, Exit.inBlock]
    refine ret_val (v := (Bo ((fcmp .gtr (ford .f64 (cf .f64 r48) (cf .f64 0))) == (fcmp .gtr (ford .f64 (cf .f64 r53) (cf .f64 0)))))) (res_T rfl (slot rfl)) X57 ?_
    try simp only [hβ1, hβ2, hβ5, hβ6, h49, h54] at c17 c46
    have x58 : (sameF (cf .f64 x) (cf .f64 y)) = ((fcmp .gtr (ford .f64 (cf .f64 r48) (cf .f64 0))) == (fcmp .gtr (ford .f64 (cf .f64 r53) (cf .f64 0)))) := by first | with_reducible rfl | (simp only [sameF, hβ1, hβ2, hβ5, hβ6, h49, h54, c17, c46]; done) | (simp [sameF, hβ1, hβ2, hβ5, hβ6, h49, h54, c17, c46]; done) | (revert c17 c46; simp +contextual [sameF, hβ1, hβ2, hβ5, hβ6, h49, h54]; done) | (rcases c17' with hh | hh <;> simp only [hh, sameF, hβ1, hβ2, hβ5, hβ6, h49, h54, c17, c46]; done) | (rcases c46' with hh | hh <;> simp only [hh, sameF, hβ1, hβ2, hβ5, hβ6, h49, h54, c17, c46]; done) | (rcases c46' with hh | hh <;> simp_all [sameF]; done) | (rcases c46' with hh | hh | hh <;> simp_all [sameF]; done) | (rcases c46' with hh | hh | hh | hh <;> simp_all [sameF]; done) | (simp_all [sameF]; done) | rfl
    exact (by first | rfl | rw [x58])
  have c46' := c46
  (try simp only [hβ1, hβ2, hβ5, hβ6] at c46')
  (try simp only [icmp, Bool.and_eq_true, Bool.or_eq_true, Bool.and_eq_false_iff, Bool.or_eq_false_iff, Bool.not_eq_true', Bool.not_eq_false', decide_eq_true_eq, decide_eq_false_iff_not, beq_iff_eq, bne_iff_ne, beq_eq_false_iff_ne, bne_eq_false_iff_eq] at c46')
  refine wp_skip (hK33 _ _ ?_)
  refine wp_seq_k fun K59 hK59 => ?_
  refine wp_region_lit ?_
  refine q_is (l' := [(Fd x), (Fd y), Ud, Ud, (Bo false), v4, v5, v6, v7, v8, v9, v10, (Bo (β1 || β2)), Ud, Ud, Ud, Ud, Ud, Ud, Ud, Ud, v35, v36, v37, v38, v39, (Bo (β5 && β6)), Ud, Ud, Ud, Ud, Ud, Ud, Ud, (Fd x), Ud, Ud]) rfl rfl (does_move (u := (Fd x)) (ev rfl)) rfl ?_
  refine q_is (l' := [(Fd x), (Fd y), Ud, Ud, (Bo false), v4, v5, v6, v7, v8, v9, v10, (Bo (β1 || β2)), Ud, Ud, Ud, Ud, Ud, Ud, Ud, Ud, v35, v36, v37, v38, v39, (Bo (β5 && β6)), Ud, Ud, Ud, Ud, Ud, Ud, Ud, (Fd x), (Fd y), Ud]) rfl rfl (does_move (u := (Fd y)) (ev rfl)) rfl ?_
  refine q_is (l' := [(Fd x), (Fd y), Ud, Ud, (Bo false), v4, v5, v6, v7, v8, v9, v10, (Bo (β1 || β2)), Ud, Ud, Ud, Ud, Ud, Ud, Ud, Ud, v35, v36, v37, v38, v39, (Bo (β5 && β6)), Ud, Ud, Ud, Ud, Ud, Ud, Ud, (Fd x), (Fd y), (Bo (fcmp .eql (ford .f64 (cf .f64 x) (cf .f64 y))))]) rfl rfl (does_fcmp (.inl rfl) (ev rfl) (ev rfl)) rfl ?_
  refine q_is (l' := [(Fd x), (Fd y), Ud, Ud, (Bo (fcmp .eql (ford .f64 (cf .f64 x) (cf .f64 y)))), v4, v5, v6, v7, v8, v9, v10, (Bo (β1 || β2)), Ud, Ud, Ud, Ud, Ud, Ud, Ud, Ud, v35, v36, v37, v38, v39, (Bo (β5 && β6)), Ud, Ud, Ud, Ud, Ud, Ud, Ud, (Fd x), (Fd y), (Bo (fcmp .eql (ford .f64 (cf .f64 x) (cf .f64 y))))]) rfl rfl (does_assign (u := (Bo (fcmp .eql (ford .f64 (cf .f64 x) (cf .f64 y))))) (ev rfl)) rfl ?_
  refine wpList_nil (hK59 _ _ ?_)
  refine wp_ret ?_
  refine ret_val (v := (Bo (fcmp .eql (ford .f64 (cf .f64 x) (cf .f64 y))))) (res_T rfl (slot rfl)) X45 ?_
  try simp only [hβ1, hβ2, hβ5, hβ6] at c17 c46
  have x60 : (sameF (cf .f64 x) (cf .f64 y)) = (fcmp .eql (ford .f64 (cf .f64 x) (cf .f64 y))) := by first | with_reducible rfl | (simp only [sameF, hβ1, hβ2, hβ5, hβ6, c17, c46]; done) | (simp [sameF, hβ1, hβ2, hβ5, hβ6, c17, c46]; done) | (revert c17 c46; simp +contextual [sameF, hβ1, hβ2, hβ5, hβ6]; done) | (rcases c17' with hh | hh <;> simp only [hh, sameF, hβ1, hβ2, hβ5, hβ6, c17, c46]; done) | (rcases c46' with hh | hh <;> simp only [hh, sameF, hβ1, hβ2, hβ5, hβ6, c17, c46]; done) | (rcases c46' with hh | hh <;> simp_all [sameF]; done) | (rcases c46' with hh | hh | hh <;> simp_all [sameF]; done) | (rcases c46' with hh | hh | hh | hh <;> simp_all [sameF]; done) | (simp_all [sameF]; done) | rfl
  exact (by first | rfl | rw [x60])

/- laws.eqVector -/
theorem c_laws_eqVector (a : List Value) (A_a : V3) (b : List Value) (A_b : V3) (w : World) (hv_a : RV3 w A_a a) (hv_b : RV3 w A_b b) : Gives Try.prog 33 #[(.agg a.toArray), (.agg b.toArray)] w (fun v w' => v = (Bo (sameV A_a A_b))) := by
  obtain ⟨r1, r3, r5, rfl, h2, h4, h6⟩ := hv_a
  obtain ⟨r7, r9, r11, rfl, h8, h10, h12⟩ := hv_b
  refine enter [(.agg #[(Fl r1), (Fl r3), (Fl r5)]), (.agg #[(Fl r7), (Fl r9), (Fl r11)]), Ud, Ud, Ud, Ud, Ud, Ud, Ud, Ud, Ud, Ud, Ud, Ud, Ud, Ud, Ud, Ud, Ud, Ud, Ud, Ud, Ud, Ud, Ud, Ud, Ud, Ud, Ud] Try.func33 rfl Try.ntmps33 rfl ?_
  refine wp_seq_k fun K13 hK13 => ?_
  refine wp_region_lit ?_
  refine seqd rfl rfl (does_box (u := (.agg #[(Fl r1), (Fl r3), (Fl r5)])) (ev rfl)) ?_; rintro _ w18 ⟨b14, rfl, hb15, hB16, E17⟩
  have g19 : w.heap.size ≤ b14 := Nat.le_trans (Below.size (Ext.refl w)) hb15
  change Blk _ _ [(Fl r1), (Fl r3), (Fl r5)] at hB16
  have X20 := Ext.gr (Ext.refl w) E17
  show wpList _ _ _ _ (fr [(.agg #[(Fl r1), (Fl r3), (Fl r5)]), (.agg #[(Fl r7), (Fl r9), (Fl r11)]), (Pt b14 0), Ud, Ud, Ud, Ud, Ud, Ud, Ud, Ud, Ud, Ud, Ud, Ud, Ud, Ud, Ud, Ud, Ud, Ud, Ud, Ud, Ud, Ud, Ud, Ud, Ud, Ud]) _
  refine seqd rfl rfl (does_box (u := (.agg #[(Fl r7), (Fl r9), (Fl r11)])) (ev rfl)) ?_; rintro _ w25 ⟨b21, rfl, hb22, hB23, E24⟩
  have n26 : b14 < b21 := Nat.lt_of_lt_of_le (Blk.lt hB16) hb22
  have g27 : w.heap.size ≤ b21 := Nat.le_trans (Below.size X20) hb22
  change Blk _ _ [(Fl r7), (Fl r9), (Fl r11)] at hB23
  have X28 := Ext.gr X20 E24
  show wpList _ _ _ _ (fr [(.agg #[(Fl r1), (Fl r3), (Fl r5)]), (.agg #[(Fl r7), (Fl r9), (Fl r11)]), (Pt b14 0), (Pt b21 0), Ud, Ud, Ud, Ud, Ud, Ud, Ud, Ud, Ud, Ud, Ud, Ud, Ud, Ud, Ud, Ud, Ud, Ud, Ud, Ud, Ud, Ud, Ud, Ud, Ud]) _
  refine q_is (l' := [(.agg #[(Fl r1), (Fl r3), (Fl r5)]), (.agg #[(Fl r7), (Fl r9), (Fl r11)]), (Pt b14 0), (Pt b21 0), (Bo false), Ud, Ud, Ud, Ud, Ud, Ud, Ud, Ud, Ud, Ud, Ud, Ud, Ud, Ud, Ud, Ud, Ud, Ud, Ud, Ud, Ud, Ud, Ud, Ud]) rfl rfl (does_assign (u := (Bo false)) (ev rfl)) rfl ?_
  refine wpList_nil (hK13 _ _ ?_)
  refine wp_seq_k fun K29 hK29 => ?_
  refine wp_seq_k fun K30 hK30 => ?_
  refine wp_region_lit ?_
  refine q_is (l' := [(.agg #[(Fl r1), (Fl r3), (Fl r5)]), (.agg #[(Fl r7), (Fl r9), (Fl r11)]), (Pt b14 0), (Pt b21 0), (Bo false), (Pt b14 0), Ud, Ud, Ud, Ud, Ud, Ud, Ud, Ud, Ud, Ud, Ud, Ud, Ud, Ud, Ud, Ud, Ud, Ud, Ud, Ud, Ud, Ud, Ud]) rfl rfl (does_fieldAddr (ev rfl) fa26_0) rfl ?_
  refine q_is (l' := [(.agg #[(Fl r1), (Fl r3), (Fl r5)]), (.agg #[(Fl r7), (Fl r9), (Fl r11)]), (Pt b14 0), (Pt b21 0), (Bo false), (Pt b14 0), (Fl r1), Ud, Ud, Ud, Ud, Ud, Ud, Ud, Ud, Ud, Ud, Ud, Ud, Ud, Ud, Ud, Ud, Ud, Ud, Ud, Ud, Ud, Ud]) rfl rfl (does_load (u := (Fl r1)) (ev rfl) Try.isAgg24 (Cells.at (Blk.cells (hB16.ext E24)) 0 rfl)) rfl ?_
  refine seqd rfl rfl (does_widen Try.underlying24 Try.underlying80 (ev rfl)) ?_; rintro _ w34 ⟨r31, rfl, h32, E33⟩
  have X35 := Ext.gr X28 E33
  show wpList _ _ _ _ (fr [(.agg #[(Fl r1), (Fl r3), (Fl r5)]), (.agg #[(Fl r7), (Fl r9), (Fl r11)]), (Pt b14 0), (Pt b21 0), (Bo false), (Pt b14 0), (Fl r1), (Fd r31), Ud, Ud, Ud, Ud, Ud, Ud, Ud, Ud, Ud, Ud, Ud, Ud, Ud, Ud, Ud, Ud, Ud, Ud, Ud, Ud, Ud]) _
  refine q_is (l' := [(.agg #[(Fl r1), (Fl r3), (Fl r5)]), (.agg #[(Fl r7), (Fl r9), (Fl r11)]), (Pt b14 0), (Pt b21 0), (Bo false), (Pt b14 0), (Fl r1), (Fd r31), (Pt b21 0), Ud, Ud, Ud, Ud, Ud, Ud, Ud, Ud, Ud, Ud, Ud, Ud, Ud, Ud, Ud, Ud, Ud, Ud, Ud, Ud]) rfl rfl (does_fieldAddr (ev rfl) fa26_0) rfl ?_
  refine q_is (l' := [(.agg #[(Fl r1), (Fl r3), (Fl r5)]), (.agg #[(Fl r7), (Fl r9), (Fl r11)]), (Pt b14 0), (Pt b21 0), (Bo false), (Pt b14 0), (Fl r1), (Fd r31), (Pt b21 0), (Fl r7), Ud, Ud, Ud, Ud, Ud, Ud, Ud, Ud, Ud, Ud, Ud, Ud, Ud, Ud, Ud, Ud, Ud, Ud, Ud]) rfl rfl (does_load (u := (Fl r7)) (ev rfl) Try.isAgg24 (Cells.at (Blk.cells (hB23.ext E33)) 0 rfl)) rfl ?_
  refine seqd rfl rfl (does_widen Try.underlying24 Try.underlying80 (ev rfl)) ?_; rintro _ w39 ⟨r36, rfl, h37, E38⟩
  have X40 := Ext.gr X35 E38
  show wpList _ _ _ _ (fr [(.agg #[(Fl r1), (Fl r3), (Fl r5)]), (.agg #[(Fl r7), (Fl r9), (Fl r11)]), (Pt b14 0), (Pt b21 0), (Bo false), (Pt b14 0), (Fl r1), (Fd r31), (Pt b21 0), (Fl r7), (Fd r36), Ud, Ud, Ud, Ud, Ud, Ud, Ud, Ud, Ud, Ud, Ud, Ud, Ud, Ud, Ud, Ud, Ud, Ud]) _
  refine seqd rfl rfl (does_call (args := #[(Fd r31), (Fd r36)]) cal45 (evs rfl) (c_laws_sameFloat r31 r36 _)) ?_; rintro _ w42 ⟨E41, rfl⟩
  have X43 := Ext.gr X40 E41
  show wpList _ _ _ _ (fr [(.agg #[(Fl r1), (Fl r3), (Fl r5)]), (.agg #[(Fl r7), (Fl r9), (Fl r11)]), (Pt b14 0), (Pt b21 0), (Bo false), (Pt b14 0), (Fl r1), (Fd r31), (Pt b21 0), (Fl r7), (Fd r36), (Bo (sameF (cf .f64 r31) (cf .f64 r36))), Ud, Ud, Ud, Ud, Ud, Ud, Ud, Ud, Ud, Ud, Ud, Ud, Ud, Ud, Ud, Ud, Ud]) _
  refine q_is (l' := [(.agg #[(Fl r1), (Fl r3), (Fl r5)]), (.agg #[(Fl r7), (Fl r9), (Fl r11)]), (Pt b14 0), (Pt b21 0), (Bo false), (Pt b14 0), (Fl r1), (Fd r31), (Pt b21 0), (Fl r7), (Fd r36), (Bo (sameF (cf .f64 r31) (cf .f64 r36))), (Bo (!(sameF (cf .f64 r31) (cf .f64 r36)))), Ud, Ud, Ud, Ud, Ud, Ud, Ud, Ud, Ud, Ud, Ud, Ud, Ud, Ud, Ud, Ud]) rfl rfl (does_not (ev rfl)) rfl ?_
  refine wpList_nil (hK30 _ _ ?_)
  refine wp_cond_split (t := !(sameF (cf .f64 r31) (cf .f64 r36))) (ev rfl) (fun c44 => ?_) (fun c44 => ?_)
  · rw [Bool.not_eq_true'] at c44
    have c44' := c44
    refine wp_seq_k fun K45 hK45 => ?_
    refine wp_region_lit ?_
    refine q_is (l' := [(.agg #[(Fl r1), (Fl r3), (Fl r5)]), (.agg #[(Fl r7), (Fl r9), (Fl r11)]), (Pt b14 0), (Pt b21 0), (Bo false), (Pt b14 0), (Fl r1), (Fd r31), (Pt b21 0), (Fl r7), (Fd r36), (Bo (sameF (cf .f64 r31) (cf .f64 r36))), (Bo (!(sameF (cf .f64 r31) (cf .f64 r36)))), Ud, Ud, Ud, Ud, Ud, Ud, Ud, Ud, Ud, Ud, Ud, Ud, Ud, Ud, Ud, Ud]) rfl rfl (does_assign (u := (Bo false)) (ev rfl)) rfl ?_
    refine wpList_nil (hK45 _ _ ?_)
    refine wp_ret ?_
    dsimp only [Exit.then, Exit.inBlock]
    refine ret_val (v := (Bo false)) (res_T rfl (slot rfl)) X43 ?_
    try simp only [h2, h4, h6, h8, h10, h12, h32, h37] at c44
    have x46 : (sameV A_a A_b) = false := by first | with_reducible rfl | (simp only [sameV, h2, h4, h6, h8, h10, h12, h32, h37, c44]; done) | (simp [sameV, h2, h4, h6, h8, h10, h12, h32, h37, c44]; done) | (revert c44; simp +contextual [sameV, h2, h4, h6, h8, h10, h12, h32, h37]; done) | (rcases c44' with hh | hh <;> simp only [hh, sameV, h2, h4, h6, h8, h10, h12, h32, h37, c44]; done) | (rcases c44' with hh | hh <;> simp_all [sameV]; done) | (rcases c44' with hh | hh | hh <;> simp_all [sameV]; done) | (rcases c44' with hh | hh | hh | hh <;> simp_all [sameV]; done) | (simp_all [sameV]; done) | rfl
    exact (by first | rfl | rw [x46])
  rw [Bool.not_eq_false'] at c44
  have c44' := c44
  refine wp_skip (hK29 _ _ ?_)
  refine wp_seq_k fun K47 hK47 => ?_
  refine wp_seq_k fun K48 hK48 => ?_
  refine wp_region_lit ?_
  refine q_is (l' := [(.agg #[(Fl r1), (Fl r3), (Fl r5)]), (.agg #[(Fl r7), (Fl r9), (Fl r11)]), (Pt b14 0), (Pt b21 0), (Bo false), (Pt b14 0), (Fl r1), (Fd r31), (Pt b21 0), (Fl r7), (Fd r36), (Bo (sameF (cf .f64 r31) (cf .f64 r36))), (Bo (!(sameF (cf .f64 r31) (cf .f64 r36)))), (Pt b14 1), Ud, Ud, Ud, Ud, Ud, Ud, Ud, Ud, Ud, Ud, Ud, Ud, Ud, Ud, Ud]) rfl rfl (does_fieldAddr (ev rfl) fa26_1) rfl ?_
  refine q_is (l' := [(.agg #[(Fl r1), (Fl r3), (Fl r5)]), (.agg #[(Fl r7), (Fl r9), (Fl r11)]), (Pt b14 0), (Pt b21 0), (Bo false), (Pt b14 0), (Fl r1), (Fd r31), (Pt b21 0), (Fl r7), (Fd r36), (Bo (sameF (cf .f64 r31) (cf .f64 r36))), (Bo (!(sameF (cf .f64 r31) (cf .f64 r36)))), (Pt b14 1), (Fl r3), Ud, Ud, Ud, Ud, Ud, Ud, Ud, Ud, Ud, Ud, Ud, Ud, Ud, Ud]) rfl rfl (does_load (u := (Fl r3)) (ev rfl) Try.isAgg24 (Cells.at (Blk.cells ((((hB16.ext E24).ext E33).ext E38).ext E41)) 1 rfl)) rfl ?_
  refine seqd rfl rfl (does_widen Try.underlying24 Try.underlying80 (ev rfl)) ?_; rintro _ w52 ⟨r49, rfl, h50, E51⟩
  have X53 := Ext.gr X43 E51
  show wpList _ _ _ _ (fr [(.agg #[(Fl r1), (Fl r3), (Fl r5)]), (.agg #[(Fl r7), (Fl r9), (Fl r11)]), (Pt b14 0), (Pt b21 0), (Bo false), (Pt b14 0), (Fl r1), (Fd r31), (Pt b21 0), (Fl r7), (Fd r36), (Bo (sameF (cf .f64 r31) (cf .f64 r36))), (Bo (!(sameF (cf .f64 r31) (cf .f64 r36)))), (Pt b14 1), (Fl r3), (Fd r49), Ud, Ud, Ud, Ud, Ud, Ud, Ud, Ud, Ud, Ud, Ud, Ud, Ud]) _
  refine q_is (l' := [(.agg #[(Fl r1), (Fl r3), (Fl r5)]), (.agg #[(Fl r7), (Fl r9), (Fl r11)]), (Pt b14 0), (Pt b21 0), (Bo false), (Pt b14 0), (Fl r1), (Fd r31), (Pt b21 0), (Fl r7), (Fd r36), (Bo (sameF (cf .f64 r31) (cf .f64 r36))), (Bo (!(sameF (cf .f64 r31) (cf .f64 r36)))), (Pt b14 1), (Fl r3), (Fd r49), (Pt b21 1), Ud, Ud, Ud, Ud, Ud, Ud, Ud, Ud, Ud, Ud, Ud, Ud]) rfl rfl (does_fieldAddr (ev rfl) fa26_1) rfl ?_
  refine q_is (l' := [(.agg #[(Fl r1), (Fl r3), (Fl r5)]), (.agg #[(Fl r7), (Fl r9), (Fl r11)]), (Pt b14 0), (Pt b21 0), (Bo false), (Pt b14 0), (Fl r1), (Fd r31), (Pt b21 0), (Fl r7), (Fd r36), (Bo (sameF (cf .f64 r31) (cf .f64 r36))), (Bo (!(sameF (cf .f64 r31) (cf .f64 r36)))), (Pt b14 1), (Fl r3), (Fd r49), (Pt b21 1), (Fl r9), Ud, Ud, Ud, Ud, Ud, Ud, Ud, Ud, Ud, Ud, Ud]) rfl rfl (does_load (u := (Fl r9)) (ev rfl) Try.isAgg24 (Cells.at (Blk.cells ((((hB23.ext E33).ext E38).ext E41).ext E51)) 1 rfl)) rfl ?_
  refine seqd rfl rfl (does_widen Try.underlying24 Try.underlying80 (ev rfl)) ?_; rintro _ w57 ⟨r54, rfl, h55, E56⟩
  have X58 := Ext.gr X53 E56
  show wpList _ _ _ _ (fr [(.agg #[(Fl r1), (Fl r3), (Fl r5)]), (.agg #[(Fl r7), (Fl r9), (Fl r11)]), (Pt b14 0), (Pt b21 0), (Bo false), (Pt b14 0), (Fl r1), (Fd r31), (Pt b21 0), (Fl r7), (Fd r36), (Bo (sameF (cf .f64 r31) (cf .f64 r36))), (Bo (!(sameF (cf .f64 r31) (cf .f64 r36)))), (Pt b14 1), (Fl r3), (Fd r49), (Pt b21 1), (Fl r9), (Fd r54), Ud, Ud, Ud, Ud, Ud, Ud, Ud, Ud, Ud, Ud]) _
  refine seqd rfl rfl (does_call (args := #[(Fd r49), (Fd r54)]) cal45 (evs rfl) (c_laws_sameFloat r49 r54 _)) ?_; rintro _ w60 ⟨E59, rfl⟩
  have X61 := Ext.gr X58 E59
  show wpList _ _ _ _ (fr [(.agg #[(Fl r1), (Fl r3), (Fl r5)]), (.agg #[(Fl r7), (Fl r9), (Fl r11)]), (Pt b14 0), (Pt b21 0), (Bo false), (Pt b14 0), (Fl r1), (Fd r31), (Pt b21 0), (Fl r7), (Fd r36), (Bo (sameF (cf .f64 r31) (cf .f64 r36))), (Bo (!(sameF (cf .f64 r31) (cf .f64 r36)))), (Pt b14 1), (Fl r3), (Fd r49), (Pt b21 1), (Fl r9), (Fd r54), (Bo (sameF (cf .f64 r49) (cf .f64 r54))), Ud, Ud, Ud, Ud, Ud, Ud, Ud, Ud, Ud]) _
  refine q_is (l' := [(.agg #[(Fl r1), (Fl r3), (Fl r5)]), (.agg #[(Fl r7), (Fl r9), (Fl r11)]), (Pt b14 0), (Pt b21 0), (Bo false), (Pt b14 0), (Fl r1), (Fd r31), (Pt b21 0), (Fl r7), (Fd r36), (Bo (sameF (cf .f64 r31) (cf .f64 r36))), (Bo (!(sameF (cf .f64 r31) (cf .f64 r36)))), (Pt b14 1), (Fl r3), (Fd r49), (Pt b21 1), (Fl r9), (Fd r54), (Bo (sameF (cf .f64 r49) (cf .f64 r54))), (Bo (!(sameF (cf .f64 r49) (cf .f64 r54)))), Ud, Ud, Ud, Ud, Ud, Ud, Ud, Ud]) rfl rfl (does_not (ev rfl)) rfl ?_
  refine wpList_nil (hK48 _ _ ?_)
  refine wp_cond_split (t := !(sameF (cf .f64 r49) (cf .f64 r54))) (ev rfl) (fun c62 => ?_) (fun c62 => ?_)
  · rw [Bool.not_eq_true'] at c62
    have c62' := c62
    refine wp_seq_k fun K63 hK63 => ?_
    refine wp_region_lit ?_
    refine q_is (l' := [(.agg #[(Fl r1), (Fl r3), (Fl r5)]), (.agg #[(Fl r7), (Fl r9), (Fl r11)]), (Pt b14 0), (Pt b21 0), (Bo false), (Pt b14 0), (Fl r1), (Fd r31), (Pt b21 0), (Fl r7), (Fd r36), (Bo (sameF (cf .f64 r31) (cf .f64 r36))), (Bo (!(sameF (cf .f64 r31) (cf .f64 r36)))), (Pt b14 1), (Fl r3), (Fd r49), (Pt b21 1), (Fl r9), (Fd r54), (Bo (sameF (cf .f64 r49) (cf .f64 r54))), (Bo (!(sameF (cf .f64 r49) (cf .f64 r54)))), Ud, Ud, Ud, Ud, Ud, Ud, Ud, Ud]) rfl rfl (does_assign (u := (Bo false)) (ev rfl)) rfl ?_
    refine wpList_nil (hK63 _ _ ?_)
    refine wp_ret ?_
    dsimp only [Exit.then, Exit.inBlock]
    refine ret_val (v := (Bo false)) (res_T rfl (slot rfl)) X61 ?_
    try simp only [h2, h4, h6, h8, h10, h12, h32, h37, h50, h55] at c44 c62
    have x64 : (sameV A_a A_b) = false := by first | with_reducible rfl | (simp only [sameV, h2, h4, h6, h8, h10, h12, h32, h37, h50, h55, c44, c62]; done) | (simp [sameV, h2, h4, h6, h8, h10, h12, h32, h37, h50, h55, c44, c62]; done) | (revert c44 c62; simp +contextual [sameV, h2, h4, h6, h8, h10, h12, h32, h37, h50, h55]; done) | (rcases c44' with hh | hh <;> simp only [hh, sameV, h2, h4, h6, h8, h10, h12, h32, h37, h50, h55, c44, c62]; done) | (rcases c62' with hh | hh <;> simp only [hh, sameV, h2, h4, h6, h8, h10, h12, h32, h37, h50, h55, c44, c62]; done) | (rcases c62' with hh | hh <;> simp_all [sameV]; done) | (rcases c62' with hh | hh | hh <;> simp_all [sameV]; done) | (rcases c62' with hh | hh | hh | hh <;> simp_all [sameV]; done) | (simp_all [sameV]; done) | rfl
    exact (by first | rfl | rw [x64])
  rw [Bool.not_eq_false'] at c62
  have c62' := c62
  refine wp_skip (hK47 _ _ ?_)
  refine wp_seq_k fun K65 hK65 => ?_
  refine wp_seq_k fun K66 hK66 => ?_
  refine wp_region_lit ?_
  refine q_is (l' := [(.agg #[(Fl r1), (Fl r3), (Fl r5)]), (.agg #[(Fl r7), (Fl r9), (Fl r11)]), (Pt b14 0), (Pt b21 0), (Bo false), (Pt b14 0), (Fl r1), (Fd r31), (Pt b21 0), (Fl r7), (Fd r36), (Bo (sameF (cf .f64 r31) (cf .f64 r36))), (Bo (!(sameF (cf .f64 r31) (cf .f64 r36)))), (Pt b14 1), (Fl r3), (Fd r49), (Pt b21 1), (Fl r9), (Fd r54), (Bo (sameF (cf .f64 r49) (cf .f64 r54))), (Bo (!(sameF (cf .f64 r49) (cf .f64 r54)))), (Pt b14 2), Ud, Ud, Ud, Ud, Ud, Ud, Ud]) rfl rfl (does_fieldAddr (ev rfl) fa26_2) rfl ?_
  refine q_is (l' := [(.agg #[(Fl r1), (Fl r3), (Fl r5)]), (.agg #[(Fl r7), (Fl r9), (Fl r11)]), (Pt b14 0), (Pt b21 0), (Bo false), (Pt b14 0), (Fl r1), (Fd r31), (Pt b21 0), (Fl r7), (Fd r36), (Bo (sameF (cf .f64 r31) (cf .f64 r36))), (Bo (!(sameF (cf .f64 r31) (cf .f64 r36)))), (Pt b14 1), (Fl r3), (Fd r49), (Pt b21 1), (Fl r9), (Fd r54), (Bo (sameF (cf .f64 r49) (cf .f64 r54))), (Bo (!(sameF (cf .f64 r49) (cf .f64 r54)))), (Pt b14 2), (Fl r5), Ud, Ud, Ud, Ud, Ud, Ud]) rfl rfl (does_load (u := (Fl r5)) (ev rfl) Try.isAgg24 (Cells.at (Blk.cells (((((((hB16.ext E24).ext E33).ext E38).ext E41).ext E51).ext E56).ext E59)) 2 rfl)) rfl ?_
  refine seqd rfl rfl (does_widen Try.underlying24 Try.underlying80 (ev rfl)) ?_; rintro _ w70 ⟨r67, rfl, h68, E69⟩
  have X71 := Ext.gr X61 E69
  show wpList _ _ _ _ (fr [(.agg #[(Fl r1), (Fl r3), (Fl r5)]), (.agg #[(Fl r7), (Fl r9), (Fl r11)]), (Pt b14 0), (Pt b21 0), (Bo false), (Pt b14 0), (Fl r1), (Fd r31), (Pt b21 0), (Fl r7), (Fd r36), (Bo (sameF (cf .f64 r31) (cf .f64 r36))), (Bo (!(sameF (cf .f64 r31) (cf .f64 r36)))), (Pt b14 1), (Fl r3), (Fd r49), (Pt b21 1), (Fl r9), (Fd r54), (Bo (sameF (cf .f64 r49) (cf .f64 r54))), (Bo (!(sameF (cf .f64 r49) (cf .f64 r54)))), (Pt b14 2), (Fl r5), (Fd r67), Ud, Ud, Ud, Ud, Ud]) _
  refine q_is (l' := [(.agg #[(Fl r1), (Fl r3), (Fl r5)]), (.agg #[(Fl r7), (Fl r9), (Fl r11)]), (Pt b14 0), (Pt b21 0), (Bo false), (Pt b14 0), (Fl r1), (Fd r31), (Pt b21 0), (Fl r7), (Fd r36), (Bo (sameF (cf .f64 r31) (cf .f64 r36))), (Bo (!(sameF (cf .f64 r31) (cf .f64 r36)))), (Pt b14 1), (Fl r3), (Fd r49), (Pt b21 1), (Fl r9), (Fd r54), (Bo (sameF (cf .f64 r49) (cf .f64 r54))), (Bo (!(sameF (cf .f64 r49) (cf .f64 r54)))), (Pt b14 2), (Fl r5), (Fd r67), (Pt b21 2), Ud, Ud, Ud, Ud]) rfl rfl (does_fieldAddr (ev rfl) fa26_2) rfl ?_
  refine q_is (l' := [(.agg #[(Fl r1), (Fl r3), (Fl r5)]), (.agg #[(Fl r7), (Fl r9), (Fl r11)]), (Pt b14 0), (Pt b21 0), (Bo false), (Pt b14 0), (Fl r1), (Fd r31), (Pt b21 0), (Fl r7), (Fd r36), (Bo (sameF (cf .f64 r31) (cf .f64 r36))), (Bo (!(sameF (cf .f64 r31) (cf .f64 r36)))), (Pt b14 1), (Fl r3), (Fd r49), (Pt b21 1), (Fl r9), (Fd r54), (Bo (sameF (cf .f64 r49) (cf .f64 r54))), (Bo (!(sameF (cf .f64 r49) (cf .f64 r54)))), (Pt b14 2), (Fl r5), (Fd r67), (Pt b21 2), (Fl r11), Ud, Ud, Ud]) rfl rfl (does_load (u := (Fl r11)) (ev rfl) Try.isAgg24 (Cells.at (Blk.cells (((((((hB23.ext E33).ext E38).ext E41).ext E51).ext E56).ext E59).ext E69)) 2 rfl)) rfl ?_
  refine seqd rfl rfl (does_widen Try.underlying24 Try.underlying80 (ev rfl)) ?_; rintro _ w75 ⟨r72, rfl, h73, E74⟩
  have X76 := Ext.gr X71 E74
  show wpList _ _ _ _ (fr [(.agg #[(Fl r1), (Fl r3), (Fl r5)]), (.agg #[(Fl r7), (Fl r9), (Fl r11)]), (Pt b14 0), (Pt b21 0), (Bo false), (Pt b14 0), (Fl r1), (Fd r31), (Pt b21 0), (Fl r7), (Fd r36), (Bo (sameF (cf .f64 r31) (cf .f64 r36))), (Bo (!(sameF (cf .f64 r31) (cf .f64 r36)))), (Pt b14 1), (Fl r3), (Fd r49), (Pt b21 1), (Fl r9), (Fd r54), (Bo (sameF (cf .f64 r49) (cf .f64 r54))), (Bo (!(sameF (cf .f64 r49) (cf .f64 r54)))), (Pt b14 2), (Fl r5), (Fd r67), (Pt b21 2), (Fl r11), (Fd r72), Ud, Ud]) _
  refine seqd rfl rfl (does_call (args := #[(Fd r67), (Fd r72)]) cal45 (evs rfl) (c_laws_sameFloat r67 r72 _)) ?_; rintro _ w78 ⟨E77, rfl⟩
  have X79 := Ext.gr X76 E77
  show wpList _ _ _ _ (fr [(.agg #[(Fl r1), (Fl r3), (Fl r5)]), (.agg #[(Fl r7), (Fl r9), (Fl r11)]), (Pt b14 0), (Pt b21 0), (Bo false), (Pt b14 0), (Fl r1), (Fd r31), (Pt b21 0), (Fl r7), (Fd r36), (Bo (sameF (cf .f64 r31) (cf .f64 r36))), (Bo (!(sameF (cf .f64 r31) (cf .f64 r36)))), (Pt b14 1), (Fl r3), (Fd r49), (Pt b21 1), (Fl r9), (Fd r54), (Bo (sameF (cf .f64 r49) (cf .f64 r54))), (Bo (!(sameF (cf .f64 r49) (cf .f64 r54)))), (Pt b14 2), (Fl r5), (Fd r67), (Pt b21 2), (Fl r11), (Fd r72), (Bo (sameF (cf .f64 r67) (cf .f64 r72))), Ud]) _
  refine q_is (l' := [(.agg #[(Fl r1), (Fl r3), (Fl r5)]), (.agg #[(Fl r7), (Fl r9), (Fl r11)]), (Pt b14 0), (Pt b21 0), (Bo false), (Pt b14 0), (Fl r1), (Fd r31), (Pt b21 0), (Fl r7), (Fd r36), (Bo (sameF (cf .f64 r31) (cf .f64 r36))), (Bo (!(sameF (cf .f64 r31) (cf .f64 r36)))), (Pt b14 1), (Fl r3), (Fd r49), (Pt b21 1), (Fl r9), (Fd r54), (Bo (sameF (cf .f64 r49) (cf .f64 r54))), (Bo (!(sameF (cf .f64 r49) (cf .f64 r54)))), (Pt b14 2), (Fl r5), (Fd r67), (Pt b21 2), (Fl r11), (Fd r72), (Bo (sameF (cf .f64 r67) (cf .f64 r72))), (Bo (!(sameF (cf .f64 r67) (cf .f64 r72))))]) rfl rfl (does_not (ev rfl)) rfl ?_
  refine wpList_nil (hK66 _ _ ?_)
  refine wp_cond_split (t := !(sameF (cf .f64 r67) (cf .f64 r72))) (ev rfl) (fun c80 => ?_) (fun c80 => ?_)
  · rw [Bool.not_eq_true'] at c80
    have c80' := c80
    refine wp_seq_k fun K81 hK81 => ?_
    refine wp_region_lit ?_
    refine q_is (l' := [(.agg #[(Fl r1), (Fl r3), (Fl r5)]), (.agg #[(Fl r7), (Fl r9), (Fl r11)]), (Pt b14 0), (Pt b21 0), (Bo false), (Pt b14 0), (Fl r1), (Fd r31), (Pt b21 0), (Fl r7), (Fd r36), (Bo (sameF (cf .f64 r31) (cf .f64 r36))), (Bo (!(sameF (cf .f64 r31) (cf .f64 r36)))), (Pt b14 1), (Fl r3), (Fd r49), (Pt b21 1), (Fl r9), (Fd r54), (Bo (sameF (cf .f64 r49) (cf .f64 r54))), (Bo (!(sameF (cf .f64 r49) (cf .f64 r54)))), (Pt b14 2), (Fl r5), (Fd r67), (Pt b21 2), (Fl r11), (Fd r72), (Bo (sameF (cf .f64 r67) (cf .f64 r72))), (Bo (!(sameF (cf .f64 r67) (cf .f64 r72))))]) rfl rfl (does_assign (u := (Bo false)) (ev rfl)) rfl ?_
    refine wpList_nil (hK81 _ _ ?_)
    refine wp_ret ?_
    dsimp only [Exit.then, Exit.inBlock]
    refine ret_val (v := (Bo false)) (res_T rfl (slot rfl)) X79 ?_
    try simp only [h2, h4, h6, h8, h10, h12, h32, h37, h50, h55, h68, h73] at c44 c62 c80
    have x82 : (sameV A_a A_b) = false := by first | with_reducible rfl | (simp only [sameV, h2, h4, h6, h8, h10, h12, h32, h37, h50, h55, h68, h73, c44, c62, c80]; done) | (simp [sameV, h2, h4, h6, h8, h10, h12, h32, h37, h50, h55, h68, h73, c44, c62, c80]; done) | (revert c44 c62 c80; simp +contextual [sameV, h2, h4, h6, h8, h10, h12, h32, h37, h50, h55, h68, h73]; done) | (rcases c44' with hh | hh <;> simp only [hh, sameV, h2, h4, h6, h8, h10, h12, h32, h37, h50, h55, h68, h73, c44, c62, c80]; done) | (rcases c62' with hh | hh <;> simp only [hh, sameV, h2, h4, h6, h8, h10, h12, h32, h37, h50, h55, h68, h73, c44, c62, c80]; done) | (rcases c80' with hh | hh <;> simp only [hh, sameV, h2, h4, h6, h8, h10, h12, h32, h37, h50, h55, h68, h73, c44, c62, c80]; done) | (rcases c80' with hh | hh <;> simp_all [sameV]; done) | (rcases c80' with hh | hh | hh <;> simp_all [sameV]; done) | (rcases c80' with hh | hh | hh | hh <;> simp_all [sameV]; done) | (simp_all [sameV]; done) | rfl
    exact (by first | rfl | rw [x82])
  rw [Bool.not_eq_false'] at c80
  have c80' := c80
  refine wp_skip (hK65 _ _ ?_)
  refine wp_seq_k fun K83 hK83 => ?_
  refine wp_region_lit ?_
  refine q_is (l' := [(.agg #[(Fl r1), (Fl r3), (Fl r5)]), (.agg #[(Fl r7), (Fl r9), (Fl r11)]), (Pt b14 0), (Pt b21 0), (Bo true), (Pt b14 0), (Fl r1), (Fd r31), (Pt b21 0), (Fl r7), (Fd r36), (Bo (sameF (cf .f64 r31) (cf .f64 r36))), (Bo (!(sameF (cf .f64 r31) (cf .f64 r36)))), (Pt b14 1), (Fl r3), (Fd r49), (Pt b21 1), (Fl r9), (Fd r54), (Bo (sameF (cf .f64 r49) (cf .f64 r54))), (Bo (!(sameF (cf .f64 r49) (cf .f64 r54)))), (Pt b14 2), (Fl r5), (Fd r67), (Pt b21 2), (Fl r11), (Fd r72), (Bo (sameF (cf .f64 r67) (cf .f64 r72))), (Bo (!(sameF (cf .f64 r67) (cf .f64 r72))))]) rfl rfl (does_assign (u := (Bo true)) (ev rfl)) rfl ?_
  refine wpList_nil (hK83 _ _ ?_)
  refine wp_ret ?_
  refine ret_val (v := (Bo true)) (res_T rfl (slot rfl)) X79 ?_
  try simp only [h2, h4, h6, h8, h10, h12, h32, h37, h50, h55, h68, h73] at c44 c62 c80
  have x84 : (sameV A_a A_b) = true := by first | with_reducible rfl | (simp only [sameV, h2, h4, h6, h8, h10, h12, h32, h37, h50, h55, h68, h73, c44, c62, c80]; done) | (simp [sameV, h2, h4, h6, h8, h10, h12, h32, h37, h50, h55, h68, h73, c44, c62, c80]; done) | (revert c44 c62 c80; simp +contextual [sameV, h2, h4, h6, h8, h10, h12, h32, h37, h50, h55, h68, h73]; done) | (rcases c44' with hh | hh <;> simp only [hh, sameV, h2, h4, h6, h8, h10, h12, h32, h37, h50, h55, h68, h73, c44, c62, c80]; done) | (rcases c62' with hh | hh <;> simp only [hh, sameV, h2, h4, h6, h8, h10, h12, h32, h37, h50, h55, h68, h73, c44, c62, c80]; done) | (rcases c80' with hh | hh <;> simp only [hh, sameV, h2, h4, h6, h8, h10, h12, h32, h37, h50, h55, h68, h73, c44, c62, c80]; done) | (rcases c80' with hh | hh <;> simp_all [sameV]; done) | (rcases c80' with hh | hh | hh <;> simp_all [sameV]; done) | (rcases c80' with hh | hh | hh | hh <;> simp_all [sameV]; done) | (simp_all [sameV]; done) | rfl
  exact (by first | rfl | rw [x84])

/- laws.eqRay -/
theorem c_laws_eqRay (a : List Value) (A_a : RayT) (b : List Value) (A_b : RayT) (w : World) (hv_a : RRayT w A_a a) (hv_b : RRayT w A_b b) : Gives Try.prog 36 #[(.agg a.toArray), (.agg b.toArray)] w (fun v w' => v = (Bo (sameRay A_a A_b))) := by
  obtain ⟨r1, r3, r5, r7, r9, r11, rfl, h2, h4, h6, h8, h10, h12⟩ := hv_a
  obtain ⟨r13, r15, r17, r19, r21, r23, rfl, h14, h16, h18, h20, h22, h24⟩ := hv_b
  refine enter [(.agg #[(Fl r1), (Fl r3), (Fl r5), (Fl r7), (Fl r9), (Fl r11)]), (.agg #[(Fl r13), (Fl r15), (Fl r17), (Fl r19), (Fl r21), (Fl r23)]), Ud, Ud, Ud, Ud, Ud, Ud, Ud, Ud, Ud, Ud, Ud, Ud, Ud, Ud, Ud] Try.func36 rfl Try.ntmps36 rfl ?_
  refine wp_seq_k fun K25 hK25 => ?_
  refine wp_region_lit ?_
  refine seqd rfl rfl (does_box (u := (.agg #[(Fl r1), (Fl r3), (Fl r5), (Fl r7), (Fl r9), (Fl r11)])) (ev rfl)) ?_; rintro _ w30 ⟨b26, rfl, hb27, hB28, E29⟩
  have g31 : w.heap.size ≤ b26 := Nat.le_trans (Below.size (Ext.refl w)) hb27
  change Blk _ _ [(Fl r1), (Fl r3), (Fl r5), (Fl r7), (Fl r9), (Fl r11)] at hB28
  have X32 := Ext.gr (Ext.refl w) E29
  show wpList _ _ _ _ (fr [(.agg #[(Fl r1), (Fl r3), (Fl r5), (Fl r7), (Fl r9), (Fl r11)]), (.agg #[(Fl r13), (Fl r15), (Fl r17), (Fl r19), (Fl r21), (Fl r23)]), (Pt b26 0), Ud, Ud, Ud, Ud, Ud, Ud, Ud, Ud, Ud, Ud, Ud, Ud, Ud, Ud]) _
  refine seqd rfl rfl (does_box (u := (.agg #[(Fl r13), (Fl r15), (Fl r17), (Fl r19), (Fl r21), (Fl r23)])) (ev rfl)) ?_; rintro _ w37 ⟨b33, rfl, hb34, hB35, E36⟩
  have n38 : b26 < b33 := Nat.lt_of_lt_of_le (Blk.lt hB28) hb34
  have g39 : w.heap.size ≤ b33 := Nat.le_trans (Below.size X32) hb34
  change Blk _ _ [(Fl r13), (Fl r15), (Fl r17), (Fl r19), (Fl r21), (Fl r23)] at hB35
  have X40 := Ext.gr X32 E36
  show wpList _ _ _ _ (fr [(.agg #[(Fl r1), (Fl r3), (Fl r5), (Fl r7), (Fl r9), (Fl r11)]), (.agg #[(Fl r13), (Fl r15), (Fl r17), (Fl r19), (Fl r21), (Fl r23)]), (Pt b26 0), (Pt b33 0), Ud, Ud, Ud, Ud, Ud, Ud, Ud, Ud, Ud, Ud, Ud, Ud, Ud]) _
  refine q_is (l' := [(.agg #[(Fl r1), (Fl r3), (Fl r5), (Fl r7), (Fl r9), (Fl r11)]), (.agg #[(Fl r13), (Fl r15), (Fl r17), (Fl r19), (Fl r21), (Fl r23)]), (Pt b26 0), (Pt b33 0), (Bo false), Ud, Ud, Ud, Ud, Ud, Ud, Ud, Ud, Ud, Ud, Ud, Ud]) rfl rfl (does_assign (u := (Bo false)) (ev rfl)) rfl ?_
  refine wpList_nil (hK25 _ _ ?_)
  refine wp_seq_k fun K41 hK41 => ?_
  refine wp_seq_k fun K42 hK42 => ?_
  refine wp_region_lit ?_
  refine q_is (l' := [(.agg #[(Fl r1), (Fl r3), (Fl r5), (Fl r7), (Fl r9), (Fl r11)]), (.agg #[(Fl r13), (Fl r15), (Fl r17), (Fl r19), (Fl r21), (Fl r23)]), (Pt b26 0), (Pt b33 0), (Bo false), (Pt b26 0), Ud, Ud, Ud, Ud, Ud, Ud, Ud, Ud, Ud, Ud, Ud]) rfl rfl (does_fieldAddr (ev rfl) fa64_0) rfl ?_
  refine q_is (l' := [(.agg #[(Fl r1), (Fl r3), (Fl r5), (Fl r7), (Fl r9), (Fl r11)]), (.agg #[(Fl r13), (Fl r15), (Fl r17), (Fl r19), (Fl r21), (Fl r23)]), (Pt b26 0), (Pt b33 0), (Bo false), (Pt b26 0), (.agg #[(Fl r1), (Fl r3), (Fl r5)]), Ud, Ud, Ud, Ud, Ud, Ud, Ud, Ud, Ud, Ud]) rfl rfl (does_loadAgg (cs := [(Fl r1), (Fl r3), (Fl r5)]) (ev rfl) Try.isAgg26 Try.sizeOf26 (Cells.sub (Blk.cells (hB28.ext E36)) 0 3) rfl) rfl ?_
  refine q_is (l' := [(.agg #[(Fl r1), (Fl r3), (Fl r5), (Fl r7), (Fl r9), (Fl r11)]), (.agg #[(Fl r13), (Fl r15), (Fl r17), (Fl r19), (Fl r21), (Fl r23)]), (Pt b26 0), (Pt b33 0), (Bo false), (Pt b26 0), (.agg #[(Fl r1), (Fl r3), (Fl r5)]), (Pt b33 0), Ud, Ud, Ud, Ud, Ud, Ud, Ud, Ud, Ud]) rfl rfl (does_fieldAddr (ev rfl) fa64_0) rfl ?_
  refine q_is (l' := [(.agg #[(Fl r1), (Fl r3), (Fl r5), (Fl r7), (Fl r9), (Fl r11)]), (.agg #[(Fl r13), (Fl r15), (Fl r17), (Fl r19), (Fl r21), (Fl r23)]), (Pt b26 0), (Pt b33 0), (Bo false), (Pt b26 0), (.agg #[(Fl r1), (Fl r3), (Fl r5)]), (Pt b33 0), (.agg #[(Fl r13), (Fl r15), (Fl r17)]), Ud, Ud, Ud, Ud, Ud, Ud, Ud, Ud]) rfl rfl (does_loadAgg (cs := [(Fl r13), (Fl r15), (Fl r17)]) (ev rfl) Try.isAgg26 Try.sizeOf26 (Cells.sub (Blk.cells hB35) 0 3) rfl) rfl ?_
  refine seqd rfl rfl (does_call (args := #[(.agg #[(Fl r1), (Fl r3), (Fl r5)]), (.agg #[(Fl r13), (Fl r15), (Fl r17)])]) cal33 (evs rfl) (c_laws_eqVector [(Fl r1), (Fl r3), (Fl r5)] A_a.frm [(Fl r13), (Fl r15), (Fl r17)] A_b.frm _ ⟨r1, r3, r5, rfl, h2, h4, h6⟩ ⟨r13, r15, r17, rfl, h14, h16, h18⟩)) ?_; rintro _ w44 ⟨E43, rfl⟩
  have X45 := Ext.gr X40 E43
  show wpList _ _ _ _ (fr [(.agg #[(Fl r1), (Fl r3), (Fl r5), (Fl r7), (Fl r9), (Fl r11)]), (.agg #[(Fl r13), (Fl r15), (Fl r17), (Fl r19), (Fl r21), (Fl r23)]), (Pt b26 0), (Pt b33 0), (Bo false), (Pt b26 0), (.agg #[(Fl r1), (Fl r3), (Fl r5)]), (Pt b33 0), (.agg #[(Fl r13), (Fl r15), (Fl r17)]), (Bo (sameV A_a.frm A_b.frm)), Ud, Ud, Ud, Ud, Ud, Ud, Ud]) _
  refine q_is (l' := [(.agg #[(Fl r1), (Fl r3), (Fl r5), (Fl r7), (Fl r9), (Fl r11)]), (.agg #[(Fl r13), (Fl r15), (Fl r17), (Fl r19), (Fl r21), (Fl r23)]), (Pt b26 0), (Pt b33 0), (Bo false), (Pt b26 0), (.agg #[(Fl r1), (Fl r3), (Fl r5)]), (Pt b33 0), (.agg #[(Fl r13), (Fl r15), (Fl r17)]), (Bo (sameV A_a.frm A_b.frm)), (Bo (!(sameV A_a.frm A_b.frm))), Ud, Ud, Ud, Ud, Ud, Ud]) rfl rfl (does_not (ev rfl)) rfl ?_
  refine wpList_nil (hK42 _ _ ?_)
  refine wp_cond_split (t := !(sameV A_a.frm A_b.frm)) (ev rfl) (fun c46 => ?_) (fun c46 => ?_)
  · rw [Bool.not_eq_true'] at c46
    have c46' := c46
    refine wp_seq_k fun K47 hK47 => ?_
    refine wp_region_lit ?_
    refine q_is (l' := [(.agg #[(Fl r1), (Fl r3), (Fl r5), (Fl r7), (Fl r9), (Fl r11)]), (.agg #[(Fl r13), (Fl r15), (Fl r17), (Fl r19), (Fl r21), (Fl r23)]), (Pt b26 0), (Pt b33 0), (Bo false), (Pt b26 0), (.agg #[(Fl r1), (Fl r3), (Fl r5)]), (Pt b33 0), (.agg #[(Fl r13), (Fl r15), (Fl r17)]), (Bo (sameV A_a.frm A_b.frm)), (Bo (!(sameV A_a.frm A_b.frm))), Ud, Ud, Ud, Ud, Ud, Ud]) rfl rfl (does_assign (u := (Bo false)) (ev rfl)) rfl ?_
    refine wpList_nil (hK47 _ _ ?_)
    refine wp_ret ?_
    dsimp only [Exit.then, Exit.inBlock]
    refine ret_val (v := (Bo false)) (res_T rfl (slot rfl)) X45 ?_
    try simp only [h2, h4, h6, h8, h10, h12, h14, h16, h18, h20, h22, h24] at c46
    have x48 : (sameRay A_a A_b) = false := by first | with_reducible rfl | (simp only [sameRay, h2, h4, h6, h8, h10, h12, h14, h16, h18, h20, h22, h24, c46]; done) | (simp [sameRay, h2, h4, h6, h8, h10, h12, h14, h16, h18, h20, h22, h24, c46]; done) | (revert c46; simp +contextual [sameRay, h2, h4, h6, h8, h10, h12, h14, h16, h18, h20, h22, h24]; done) | (rcases c46' with hh | hh <;> simp only [hh, sameRay, h2, h4, h6, h8, h10, h12, h14, h16, h18, h20, h22, h24, c46]; done) | (rcases c46' with hh | hh <;> simp_all [sameRay]; done) | (rcases c46' with hh | hh | hh <;> simp_all [sameRay]; done) | (rcases c46' with hh | hh | hh | hh <;> simp_all [sameRay]; done) | (simp_all [sameRay]; done) | rfl
    exact (by first | rfl | rw [x48])
  rw [Bool.not_eq_false'] at c46
  have c46' := c46
  refine wp_skip (hK41 _ _ ?_)
  refine wp_seq_k fun K49 hK49 => ?_
  refine wp_seq_k fun K50 hK50 => ?_
  refine wp_region_lit ?_
  refine q_is (l' := [(.agg #[(Fl r1), (Fl r3), (Fl r5), (Fl r7), (Fl r9), (Fl r11)]), (.agg #[(Fl r13), (Fl r15), (Fl r17), (Fl r19), (Fl r21), (Fl r23)]), (Pt b26 0), (Pt b33 0), (Bo false), (Pt b26 0), (.agg #[(Fl r1), (Fl r3), (Fl r5)]), (Pt b33 0), (.agg #[(Fl r13), (Fl r15), (Fl r17)]), (Bo (sameV A_a.frm A_b.frm)), (Bo (!(sameV A_a.frm A_b.frm))), (Pt b26 3), Ud, Ud, Ud, Ud, Ud]) rfl rfl (does_fieldAddr (ev rfl) fa64_1) rfl ?_
  refine q_is (l' := [(.agg #[(Fl r1), (Fl r3), (Fl r5), (Fl r7), (Fl r9), (Fl r11)]), (.agg #[(Fl r13), (Fl r15), (Fl r17), (Fl r19), (Fl r21), (Fl r23)]), (Pt b26 0), (Pt b33 0), (Bo false), (Pt b26 0), (.agg #[(Fl r1), (Fl r3), (Fl r5)]), (Pt b33 0), (.agg #[(Fl r13), (Fl r15), (Fl r17)]), (Bo (sameV A_a.frm A_b.frm)), (Bo (!(sameV A_a.frm A_b.frm))), (Pt b26 3), (.agg #[(Fl r7), (Fl r9), (Fl r11)]), Ud, Ud, Ud, Ud]) rfl rfl (does_loadAgg (cs := [(Fl r7), (Fl r9), (Fl r11)]) (ev rfl) Try.isAgg26 Try.sizeOf26 (Cells.sub (Blk.cells ((hB28.ext E36).ext E43)) 3 3) rfl) rfl ?_
  refine q_is (l' := [(.agg #[(Fl r1), (Fl r3), (Fl r5), (Fl r7), (Fl r9), (Fl r11)]), (.agg #[(Fl r13), (Fl r15), (Fl r17), (Fl r19), (Fl r21), (Fl r23)]), (Pt b26 0), (Pt b33 0), (Bo false), (Pt b26 0), (.agg #[(Fl r1), (Fl r3), (Fl r5)]), (Pt b33 0), (.agg #[(Fl r13), (Fl r15), (Fl r17)]), (Bo (sameV A_a.frm A_b.frm)), (Bo (!(sameV A_a.frm A_b.frm))), (Pt b26 3), (.agg #[(Fl r7), (Fl r9), (Fl r11)]), (Pt b33 3), Ud, Ud, Ud]) rfl rfl (does_fieldAddr (ev rfl) fa64_1) rfl ?_
  refine q_is (l' := [(.agg #[(Fl r1), (Fl r3), (Fl r5), (Fl r7), (Fl r9), (Fl r11)]), (.agg #[(Fl r13), (Fl r15), (Fl r17), (Fl r19), (Fl r21), (Fl r23)]), (Pt b26 0), (Pt b33 0), (Bo false), (Pt b26 0), (.agg #[(Fl r1), (Fl r3), (Fl r5)]), (Pt b33 0), (.agg #[(Fl r13), (Fl r15), (Fl r17)]), (Bo (sameV A_a.frm A_b.frm)), (Bo (!(sameV A_a.frm A_b.frm))), (Pt b26 3), (.agg #[(Fl r7), (Fl r9), (Fl r11)]), (Pt b33 3), (.agg #[(Fl r19), (Fl r21), (Fl r23)]), Ud, Ud]) rfl rfl (does_loadAgg (cs := [(Fl r19), (Fl r21), (Fl r23)]) (ev rfl) Try.isAgg26 Try.sizeOf26 (Cells.sub (Blk.cells (hB35.ext E43)) 3 3) rfl) rfl ?_
  refine seqd rfl rfl (does_call (args := #[(.agg #[(Fl r7), (Fl r9), (Fl r11)]), (.agg #[(Fl r19), (Fl r21), (Fl r23)])]) cal33 (evs rfl) (c_laws_eqVector [(Fl r7), (Fl r9), (Fl r11)] A_a.way [(Fl r19), (Fl r21), (Fl r23)] A_b.way _ ⟨r7, r9, r11, rfl, h8, h10, h12⟩ ⟨r19, r21, r23, rfl, h20, h22, h24⟩)) ?_; rintro _ w52 ⟨E51, rfl⟩
  have X53 := Ext.gr X45 E51
  show wpList _ _ _ _ (fr [(.agg #[(Fl r1), (Fl r3), (Fl r5), (Fl r7), (Fl r9), (Fl r11)]), (.agg #[(Fl r13), (Fl r15), (Fl r17), (Fl r19), (Fl r21), (Fl r23)]), (Pt b26 0), (Pt b33 0), (Bo false), (Pt b26 0), (.agg #[(Fl r1), (Fl r3), (Fl r5)]), (Pt b33 0), (.agg #[(Fl r13), (Fl r15), (Fl r17)]), (Bo (sameV A_a.frm A_b.frm)), (Bo (!(sameV A_a.frm A_b.frm))), (Pt b26 3), (.agg #[(Fl r7), (Fl r9), (Fl r11)]), (Pt b33 3), (.agg #[(Fl r19), (Fl r21), (Fl r23)]), (Bo (sameV A_a.way A_b.way)), Ud]) _
  refine q_is (l' := [(.agg #[(Fl r1), (Fl r3), (Fl r5), (Fl r7), (Fl r9), (Fl r11)]), (.agg #[(Fl r13), (Fl r15), (Fl r17), (Fl r19), (Fl r21), (Fl r23)]), (Pt b26 0), (Pt b33 0), (Bo false), (Pt b26 0), (.agg #[(Fl r1), (Fl r3), (Fl r5)]), (Pt b33 0), (.agg #[(Fl r13), (Fl r15), (Fl r17)]), (Bo (sameV A_a.frm A_b.frm)), (Bo (!(sameV A_a.frm A_b.frm))), (Pt b26 3), (.agg #[(Fl r7), (Fl r9), (Fl r11)]), (Pt b33 3), (.agg #[(Fl r19), (Fl r21), (Fl r23)]), (Bo (sameV A_a.way A_b.way)), (Bo (!(sameV A_a.way A_b.way)))]) rfl rfl (does_not (ev rfl)) rfl ?_
  refine wpList_nil (hK50 _ _ ?_)
  refine wp_cond_split (t := !(sameV A_a.way A_b.way)) (ev rfl) (fun c54 => ?_) (fun c54 => ?_)
  · rw [Bool.not_eq_true'] at c54
    have c54' := c54
    refine wp_seq_k fun K55 hK55 => ?_
    refine wp_region_lit ?_
    refine q_is (l' := [(.agg #[(Fl r1), (Fl r3), (Fl r5), (Fl r7), (Fl r9), (Fl r11)]), (.agg #[(Fl r13), (Fl r15), (Fl r17), (Fl r19), (Fl r21), (Fl r23)]), (Pt b26 0), (Pt b33 0), (Bo false), (Pt b26 0), (.agg #[(Fl r1), (Fl r3), (Fl r5)]), (Pt b33 0), (.agg #[(Fl r13), (Fl r15), (Fl r17)]), (Bo (sameV A_a.frm A_b.frm)), (Bo (!(sameV A_a.frm A_b.frm))), (Pt b26 3), (.agg #[(Fl r7), (Fl r9), (Fl r11)]), (Pt b33 3), (.agg #[(Fl r19), (Fl r21), (Fl r23)]), (Bo (sameV A_a.way A_b.way)), (Bo (!(sameV A_a.way A_b.way)))]) rfl rfl (does_assign (u := (Bo false)) (ev rfl)) rfl ?_
    refine wpList_nil (hK55 _ _ ?_)
    refine wp_ret ?_
    dsimp only [Exit.then, Exit.inBlock]
    refine ret_val (v := (Bo false)) (res_T rfl (slot rfl)) X53 ?_
    try simp only [h2, h4, h6, h8, h10, h12, h14, h16, h18, h20, h22, h24] at c46 c54
    have x56 : (sameRay A_a A_b) = false := by first | with_reducible rfl | (simp only [sameRay, h2, h4, h6, h8, h10, h12, h14, h16, h18, h20, h22, h24, c46, c54]; done) | (simp [sameRay, h2, h4, h6, h8, h10, h12, h14, h16, h18, h20, h22, h24, c46, c54]; done) | (revert c46 c54; simp +contextual [sameRay, h2, h4, h6, h8, h10, h12, h14, h16, h18, h20, h22, h24]; done) | (rcases c46' with hh | hh <;> simp only [hh, sameRay, h2, h4, h6, h8, h10, h12, h14, h16, h18, h20, h22, h24, c46, c54]; done) | (rcases c54' with hh | hh <;> simp only [hh, sameRay, h2, h4, h6, h8, h10, h12, h14, h16, h18, h20, h22, h24, c46, c54]; done) | (rcases c54' with hh | hh <;> simp_all [sameRay]; done) | (rcases c54' with hh | hh | hh <;> simp_all [sameRay]; done) | (rcases c54' with hh | hh | hh | hh <;> simp_all [sameRay]; done) | (simp_all [sameRay]; done) | rfl
    exact (by first | rfl | rw [x56])
  rw [Bool.not_eq_false'] at c54
  have c54' := c54
  refine wp_skip (hK49 _ _ ?_)
  refine wp_seq_k fun K57 hK57 => ?_
  refine wp_region_lit ?_
  refine q_is (l' := [(.agg #[(Fl r1), (Fl r3), (Fl r5), (Fl r7), (Fl r9), (Fl r11)]), (.agg #[(Fl r13), (Fl r15), (Fl r17), (Fl r19), (Fl r21), (Fl r23)]), (Pt b26 0), (Pt b33 0), (Bo true), (Pt b26 0), (.agg #[(Fl r1), (Fl r3), (Fl r5)]), (Pt b33 0), (.agg #[(Fl r13), (Fl r15), (Fl r17)]), (Bo (sameV A_a.frm A_b.frm)), (Bo (!(sameV A_a.frm A_b.frm))), (Pt b26 3), (.agg #[(Fl r7), (Fl r9), (Fl r11)]), (Pt b33 3), (.agg #[(Fl r19), (Fl r21), (Fl r23)]), (Bo (sameV A_a.way A_b.way)), (Bo (!(sameV A_a.way A_b.way)))]) rfl rfl (does_assign (u := (Bo true)) (ev rfl)) rfl ?_
  refine wpList_nil (hK57 _ _ ?_)
  refine wp_ret ?_
  refine ret_val (v := (Bo true)) (res_T rfl (slot rfl)) X53 ?_
  try simp only [h2, h4, h6, h8, h10, h12, h14, h16, h18, h20, h22, h24] at c46 c54
  have x58 : (sameRay A_a A_b) = true := by first | with_reducible rfl | (simp only [sameRay, h2, h4, h6, h8, h10, h12, h14, h16, h18, h20, h22, h24, c46, c54]; done) | (simp [sameRay, h2, h4, h6, h8, h10, h12, h14, h16, h18, h20, h22, h24, c46, c54]; done) | (revert c46 c54; simp +contextual [sameRay, h2, h4, h6, h8, h10, h12, h14, h16, h18, h20, h22, h24]; done) | (rcases c46' with hh | hh <;> simp only [hh, sameRay, h2, h4, h6, h8, h10, h12, h14, h16, h18, h20, h22, h24, c46, c54]; done) | (rcases c54' with hh | hh <;> simp only [hh, sameRay, h2, h4, h6, h8, h10, h12, h14, h16, h18, h20, h22, h24, c46, c54]; done) | (rcases c54' with hh | hh <;> simp_all [sameRay]; done) | (rcases c54' with hh | hh | hh <;> simp_all [sameRay]; done) | (rcases c54' with hh | hh | hh | hh <;> simp_all [sameRay]; done) | (simp_all [sameRay]; done) | rfl
  exact (by first | rfl | rw [x58])

end Go.Proofs.Ytbbidfadenmmjaa
