/- contracts of functions, each walked once -/
import Derived.Test.YtbbidfadenmmjaaK2
namespace Go.Proofs.Ytbbidfadenmmjaa
open Go Go.RowKit
set_option maxRecDepth 100000
set_option maxHeartbeats 3200000
set_option linter.unusedVariables false
set_option linter.unusedSimpArgs false

/- impl.stepOk -/
theorem c_impl_stepOk (x : Nat) (w : World) : Gives Try.prog 66 #[(Fl x)] w (fun v w' => v = (Bo (finF (cf .f32 x) && posF (cf .f32 x)))) := by
  refine enter [(Fl x), Ud, Ud, Ud, Ud, Ud, Ud, Ud, Ud] Try.func66 rfl Try.ntmps66 rfl ?_
  refine wp_seq_k fun K1 hK1 => ?_
  refine wp_region_lit ?_
  refine q_is (l' := [(Fl x), Ud, (Bo false), Ud, Ud, Ud, Ud, Ud, Ud]) rfl rfl (does_assign (u := (Bo false)) (ev rfl)) rfl ?_
  refine wpList_nil (hK1 _ _ ?_)
  refine wp_seq_k fun K2 hK2 => ?_
  obtain ⟨β1, hβ1⟩ : ∃ b : Bool, b = (fcmp .gtr (ford .f32 (cf .f32 x) (cf .f32 0))) := ⟨_, rfl⟩
  refine region_text (
    [Fact.pure [] (fun v => v = (Fl x)),
    Fact.pure [3] (fun v => v = (Bo (finF (cf .f32 x)))),
    Fact.pure [4] (fun v => v = (Bo (finF (cf .f32 x)))),
    Fact.pure [5] (fun v => (finF (cf .f32 x)) = true → v = (Fl x)),
    Fact.pure [6, 5] (fun v => (finF (cf .f32 x)) = true → v = (Bo β1)),
    Fact.pure [5, 7] (fun v => v = (Bo ((finF (cf .f32 x)) && β1)))]) (by simp [Fact.pure, Fact.mem]) ?_
  refine RW_d (fun v3 => [(Fl x), Ud, (Bo false), v3, Ud, Ud, Ud, Ud, Ud]) rfl (fun _ => rfl) (fun u hu hF => ?_) (fun v3 => ?_)
  · clear hF
    refine doesG_un rfl ?_
    refine (does_move (u := (Fl x)) (ev rfl)).mono ?_; rintro _ _ ⟨rfl, rfl⟩
    exact ⟨rfl, Ext.refl _⟩
  refine RW_d (fun v4 => [(Fl x), Ud, (Bo false), v3, v4, Ud, Ud, Ud, Ud]) rfl (fun _ => rfl) (fun u hu hF => ?_) (fun v4 => ?_)
  · have h3_ : v3 = (Fl x) := hF.1
    clear hF
    refine doesG_un rfl ?_
    obtain rfl := h3_
    refine (does_call (args := #[(Fl x)]) cal104 (evs rfl) (c_impl_IsFinite x _)).mono ?_; rintro v u' ⟨hx, hv⟩
    exact ⟨hv, hx⟩
  refine RW_d (fun v5 => [(Fl x), Ud, (Bo false), v3, v4, v5, Ud, Ud, Ud]) rfl (fun _ => rfl) (fun u hu hF => ?_) (fun v5 => ?_)
  · have h4_ : v4 = (Bo (finF (cf .f32 x))) := hF.1
    clear hF
    refine doesG_un rfl ?_
    obtain rfl := h4_
    refine (does_move (u := (Bo (finF (cf .f32 x)))) (ev rfl)).mono ?_; rintro _ _ ⟨rfl, rfl⟩
    exact ⟨rfl, Ext.refl _⟩
  refine RW_d (fun v6 => [(Fl x), Ud, (Bo false), v3, v4, v5, v6, Ud, Ud]) rfl (fun _ => rfl) (fun u hu hF => ?_) (fun v6 => ?_)
  · have h5_ : v5 = (Bo (finF (cf .f32 x))) := hF.1
    clear hF
    obtain rfl := h5_
    refine doesG_g (b := (finF (cf .f32 x))) rfl (yld rfl rfl) (fun hg1 => ?_) (fun hc => ⟨fun hg1 => absurd hg1 hc, Ext.refl _⟩)
    refine (does_move (u := (Fl x)) (ev rfl)).mono ?_; rintro _ _ ⟨rfl, rfl⟩
    exact ⟨fun _ => rfl, Ext.refl _⟩
  refine RW_d (fun v7 => [(Fl x), Ud, (Bo false), v3, v4, v5, v6, v7, Ud]) rfl (fun _ => rfl) (fun u hu hF => ?_) (fun v7 => ?_)
  · have h6_ : (finF (cf .f32 x)) = true → v6 = (Fl x) := hF.1
    have h5_ : v5 = (Bo (finF (cf .f32 x))) := hF.2.1
    clear hF
    obtain rfl := h5_
    refine doesG_g (b := (finF (cf .f32 x))) rfl (yld rfl rfl) (fun hg1 => ?_) (fun hc => ⟨fun hg1 => absurd hg1 hc, Ext.refl _⟩)
    obtain rfl := h6_ hg1
    refine (does_fcmp (.inr (.inr (.inr (.inr (.inl rfl))))) (ev rfl) (ev rfl)).mono ?_; rintro _ _ ⟨rfl, rfl⟩
    exact ⟨fun _ => (by first | rfl | (show _ = _; simp only [hβ1])), Ext.refl _⟩
  refine RW_d (fun v8 => [(Fl x), Ud, (Bo false), v3, v4, v5, v6, v7, v8]) rfl (fun _ => rfl) (fun u hu hF => ?_) (fun v8 => ?_)
  · have h5_ : v5 = (Bo (finF (cf .f32 x))) := hF.1
    have h7_ : (finF (cf .f32 x)) = true → v7 = (Bo β1) := hF.2.1
    clear hF
    refine doesG_un rfl ?_
    skip
    obtain rfl := h5_
    refine (does_pick (b := (finF (cf .f32 x))) (ev rfl) (ev rfl) (ev rfl)).mono ?_; rintro _ _ ⟨rfl, rfl⟩; refine ⟨?_, Ext.refl _⟩; skip
    cases hbb : (finF (cf .f32 x)) <;> simp [hbb] at h7_ ⊢
    all_goals (first | rfl | (subst h7_; rfl) | simp_all)
  refine RW_fin ?_; intro w9 E10 hP11
  obtain ⟨⟨⟨⟨⟨⟨-, -⟩, -⟩, -⟩, -⟩, -⟩, q12⟩ := hP11
  have X13 := Ext.gr (Ext.refl w) E10
  have q12 : v8 = (Bo ((finF (cf .f32 x)) && β1)) := q12
  obtain rfl := q12
  show wpList _ _ _ _ (fr [(Fl x), Ud, (Bo false), v3, v4, v5, v6, v7, (Bo ((finF (cf .f32 x)) && β1))]) _
  refine q_is (l' := [(Fl x), Ud, (Bo ((finF (cf .f32 x)) && β1)), v3, v4, v5, v6, v7, (Bo ((finF (cf .f32 x)) && β1))]) rfl rfl (does_assign (u := (Bo ((finF (cf .f32 x)) && β1))) (ev rfl)) rfl ?_
  refine wpList_nil (hK2 _ _ ?_)
  refine wp_ret ?_
  refine ret_val (v := (Bo ((finF (cf .f32 x)) && β1))) (res_T rfl (slot rfl)) X13 ?_
  have x14 : (finF (cf .f32 x) && posF (cf .f32 x)) = ((finF (cf .f32 x)) && β1) := by first | with_reducible rfl | (simp only [posF, hβ1]; done) | (simp [posF, hβ1]; done) | rfl
  exact (by first | rfl | rw [x14])

/- impl.isZero -/
theorem c_impl_isZero (v : List Value) (A_v : V3) (w : World) (hv_v : RV3 w A_v v) : Gives Try.prog 67 #[(.agg v.toArray)] w (fun v w' => v = (Bo (zeroV A_v))) := by
  obtain ⟨r1, r3, r5, rfl, h2, h4, h6⟩ := hv_v
  refine enter [(.agg #[(Fl r1), (Fl r3), (Fl r5)]), Ud, Ud, Ud, Ud, Ud, Ud, Ud, Ud, Ud, Ud, Ud, Ud, Ud, Ud, Ud] Try.func67 rfl Try.ntmps67 rfl ?_
  refine wp_seq_k fun K7 hK7 => ?_
  refine wp_region_lit ?_
  refine seqd rfl rfl (does_box (u := (.agg #[(Fl r1), (Fl r3), (Fl r5)])) (ev rfl)) ?_; rintro _ w12 ⟨b8, rfl, hb9, hB10, E11⟩
  have g13 : w.heap.size ≤ b8 := Nat.le_trans (Below.size (Ext.refl w)) hb9
  change Blk _ _ [(Fl r1), (Fl r3), (Fl r5)] at hB10
  have X14 := Ext.gr (Ext.refl w) E11
  show wpList _ _ _ _ (fr [(.agg #[(Fl r1), (Fl r3), (Fl r5)]), (Pt b8 0), Ud, Ud, Ud, Ud, Ud, Ud, Ud, Ud, Ud, Ud, Ud, Ud, Ud, Ud]) _
  refine q_is (l' := [(.agg #[(Fl r1), (Fl r3), (Fl r5)]), (Pt b8 0), (Bo false), Ud, Ud, Ud, Ud, Ud, Ud, Ud, Ud, Ud, Ud, Ud, Ud, Ud]) rfl rfl (does_assign (u := (Bo false)) (ev rfl)) rfl ?_
  refine wpList_nil (hK7 _ _ ?_)
  refine wp_seq_k fun K15 hK15 => ?_
  obtain ⟨β1, hβ1⟩ : ∃ b : Bool, b = (fcmp .eql (ford .f32 (cf .f32 r1) (cf .f32 0))) := ⟨_, rfl⟩
  obtain ⟨β2, hβ2⟩ : ∃ b : Bool, b = (fcmp .eql (ford .f32 (cf .f32 r3) (cf .f32 0))) := ⟨_, rfl⟩
  obtain ⟨β3, hβ3⟩ : ∃ b : Bool, b = (fcmp .eql (ford .f32 (cf .f32 r5) (cf .f32 0))) := ⟨_, rfl⟩
  refine region_text (
    [Fact.pure [] (fun v => v = (Pt b8 0)),
    Fact.pure [3] (fun v => v = (Fl r1)),
    Fact.pure [4] (fun v => v = (Bo β1)),
    Fact.pure [5] (fun v => v = (Bo β1)),
    Fact.pure [6] (fun v => β1 = true → v = (Pt b8 1)),
    Fact.pure [7, 6] (fun v => β1 = true → v = (Fl r3)),
    Fact.pure [8, 6] (fun v => β1 = true → v = (Bo β2)),
    Fact.pure [6, 9] (fun v => v = (Bo (β1 && β2))),
    Fact.pure [10] (fun v => v = (Bo (β1 && β2))),
    Fact.pure [11] (fun v => (β1 && β2) = true → v = (Pt b8 2)),
    Fact.pure [12, 11] (fun v => (β1 && β2) = true → v = (Fl r5)),
    Fact.pure [13, 11] (fun v => (β1 && β2) = true → v = (Bo β3)),
    Fact.pure [11, 14] (fun v => v = (Bo ((β1 && β2) && β3)))]) (by simp [Fact.pure, Fact.mem]) ?_
  refine RW_d (fun v16 => [(.agg #[(Fl r1), (Fl r3), (Fl r5)]), (Pt b8 0), (Bo false), v16, Ud, Ud, Ud, Ud, Ud, Ud, Ud, Ud, Ud, Ud, Ud, Ud]) rfl (fun _ => rfl) (fun u hu hF => ?_) (fun v16 => ?_)
  · clear hF
    refine doesG_un rfl ?_
    refine (does_fieldAddr (ev rfl) fa26_0).mono ?_; rintro _ _ ⟨rfl, rfl⟩
    exact ⟨rfl, Ext.refl _⟩
  refine RW_d (fun v17 => [(.agg #[(Fl r1), (Fl r3), (Fl r5)]), (Pt b8 0), (Bo false), v16, v17, Ud, Ud, Ud, Ud, Ud, Ud, Ud, Ud, Ud, Ud, Ud]) rfl (fun _ => rfl) (fun u hu hF => ?_) (fun v17 => ?_)
  · have h3_ : v16 = (Pt b8 0) := hF.1
    clear hF
    refine doesG_un rfl ?_
    obtain rfl := h3_
    refine (does_load (u := (Fl r1)) (ev rfl) Try.isAgg24 (Cells.at (Blk.cells (hB10.ext hu)) 0 rfl)).mono ?_; rintro _ _ ⟨rfl, rfl⟩
    exact ⟨rfl, Ext.refl _⟩
  refine RW_d (fun v18 => [(.agg #[(Fl r1), (Fl r3), (Fl r5)]), (Pt b8 0), (Bo false), v16, v17, v18, Ud, Ud, Ud, Ud, Ud, Ud, Ud, Ud, Ud, Ud]) rfl (fun _ => rfl) (fun u hu hF => ?_) (fun v18 => ?_)
  · have h4_ : v17 = (Fl r1) := hF.1
    clear hF
    refine doesG_un rfl ?_
    obtain rfl := h4_
    refine (does_fcmp (.inl rfl) (ev rfl) (ev rfl)).mono ?_; rintro _ _ ⟨rfl, rfl⟩
    exact ⟨(by first | rfl | (show _ = _; simp only [hβ1])), Ext.refl _⟩
  refine RW_d (fun v19 => [(.agg #[(Fl r1), (Fl r3), (Fl r5)]), (Pt b8 0), (Bo false), v16, v17, v18, v19, Ud, Ud, Ud, Ud, Ud, Ud, Ud, Ud, Ud]) rfl (fun _ => rfl) (fun u hu hF => ?_) (fun v19 => ?_)
  · have h5_ : v18 = (Bo β1) := hF.1
    clear hF
    refine doesG_un rfl ?_
    obtain rfl := h5_
    refine (does_move (u := (Bo β1)) (ev rfl)).mono ?_; rintro _ _ ⟨rfl, rfl⟩
    exact ⟨rfl, Ext.refl _⟩
  refine RW_d (fun v20 => [(.agg #[(Fl r1), (Fl r3), (Fl r5)]), (Pt b8 0), (Bo false), v16, v17, v18, v19, v20, Ud, Ud, Ud, Ud, Ud, Ud, Ud, Ud]) rfl (fun _ => rfl) (fun u hu hF => ?_) (fun v20 => ?_)
  · have h6_ : v19 = (Bo β1) := hF.1
    clear hF
    obtain rfl := h6_
    refine doesG_g (b := β1) rfl (yld rfl rfl) (fun hg1 => ?_) (fun hc => ⟨fun hg1 => absurd hg1 hc, Ext.refl _⟩)
    refine (does_fieldAddr (ev rfl) fa26_1).mono ?_; rintro _ _ ⟨rfl, rfl⟩
    exact ⟨fun _ => rfl, Ext.refl _⟩
  refine RW_d (fun v21 => [(.agg #[(Fl r1), (Fl r3), (Fl r5)]), (Pt b8 0), (Bo false), v16, v17, v18, v19, v20, v21, Ud, Ud, Ud, Ud, Ud, Ud, Ud]) rfl (fun _ => rfl) (fun u hu hF => ?_) (fun v21 => ?_)
  · have h7_ : β1 = true → v20 = (Pt b8 1) := hF.1
    have h6_ : v19 = (Bo β1) := hF.2.1
    clear hF
    obtain rfl := h6_
    refine doesG_g (b := β1) rfl (yld rfl rfl) (fun hg1 => ?_) (fun hc => ⟨fun hg1 => absurd hg1 hc, Ext.refl _⟩)
    obtain rfl := h7_ hg1
    refine (does_load (u := (Fl r3)) (ev rfl) Try.isAgg24 (Cells.at (Blk.cells (hB10.ext hu)) 1 rfl)).mono ?_; rintro _ _ ⟨rfl, rfl⟩
    exact ⟨fun _ => rfl, Ext.refl _⟩
  refine RW_d (fun v22 => [(.agg #[(Fl r1), (Fl r3), (Fl r5)]), (Pt b8 0), (Bo false), v16, v17, v18, v19, v20, v21, v22, Ud, Ud, Ud, Ud, Ud, Ud]) rfl (fun _ => rfl) (fun u hu hF => ?_) (fun v22 => ?_)
  · have h8_ : β1 = true → v21 = (Fl r3) := hF.1
    have h6_ : v19 = (Bo β1) := hF.2.1
    clear hF
    obtain rfl := h6_
    refine doesG_g (b := β1) rfl (yld rfl rfl) (fun hg1 => ?_) (fun hc => ⟨fun hg1 => absurd hg1 hc, Ext.refl _⟩)
    obtain rfl := h8_ hg1
    refine (does_fcmp (.inl rfl) (ev rfl) (ev rfl)).mono ?_; rintro _ _ ⟨rfl, rfl⟩
    exact ⟨fun _ => (by first | rfl | (show _ = _; simp only [hβ2])), Ext.refl _⟩
  refine RW_d (fun v23 => [(.agg #[(Fl r1), (Fl r3), (Fl r5)]), (Pt b8 0), (Bo false), v16, v17, v18, v19, v20, v21, v22, v23, Ud, Ud, Ud, Ud, Ud]) rfl (fun _ => rfl) (fun u hu hF => ?_) (fun v23 => ?_)
  · have h6_ : v19 = (Bo β1) := hF.1
    have h9_ : β1 = true → v22 = (Bo β2) := hF.2.1
    clear hF
    refine doesG_un rfl ?_
    skip
    obtain rfl := h6_
    refine (does_pick (b := β1) (ev rfl) (ev rfl) (ev rfl)).mono ?_; rintro _ _ ⟨rfl, rfl⟩; refine ⟨?_, Ext.refl _⟩; skip
    cases hbb : β1 <;> simp [hbb] at h9_ ⊢
    all_goals (first | rfl | (subst h9_; rfl) | simp_all)
  refine RW_d (fun v24 => [(.agg #[(Fl r1), (Fl r3), (Fl r5)]), (Pt b8 0), (Bo false), v16, v17, v18, v19, v20, v21, v22, v23, v24, Ud, Ud, Ud, Ud]) rfl (fun _ => rfl) (fun u hu hF => ?_) (fun v24 => ?_)
  · have h10_ : v23 = (Bo (β1 && β2)) := hF.1
    clear hF
    refine doesG_un rfl ?_
    obtain rfl := h10_
    refine (does_move (u := (Bo (β1 && β2))) (ev rfl)).mono ?_; rintro _ _ ⟨rfl, rfl⟩
    exact ⟨rfl, Ext.refl _⟩
  refine RW_d (fun v25 => [(.agg #[(Fl r1), (Fl r3), (Fl r5)]), (Pt b8 0), (Bo false), v16, v17, v18, v19, v20, v21, v22, v23, v24, v25, Ud, Ud, Ud]) rfl (fun _ => rfl) (fun u hu hF => ?_) (fun v25 => ?_)
  · have h11_ : v24 = (Bo (β1 && β2)) := hF.1
    clear hF
    obtain rfl := h11_
    refine doesG_g (b := (β1 && β2)) rfl (yld rfl rfl) (fun hg1 => ?_) (fun hc => ⟨fun hg1 => absurd hg1 hc, Ext.refl _⟩)
    refine (does_fieldAddr (ev rfl) fa26_2).mono ?_; rintro _ _ ⟨rfl, rfl⟩
    exact ⟨fun _ => rfl, Ext.refl _⟩
  refine RW_d (fun v26 => [(.agg #[(Fl r1), (Fl r3), (Fl r5)]), (Pt b8 0), (Bo false), v16, v17, v18, v19, v20, v21, v22, v23, v24, v25, v26, Ud, Ud]) rfl (fun _ => rfl) (fun u hu hF => ?_) (fun v26 => ?_)
  · have h12_ : (β1 && β2) = true → v25 = (Pt b8 2) := hF.1
    have h11_ : v24 = (Bo (β1 && β2)) := hF.2.1
    clear hF
    obtain rfl := h11_
    refine doesG_g (b := (β1 && β2)) rfl (yld rfl rfl) (fun hg1 => ?_) (fun hc => ⟨fun hg1 => absurd hg1 hc, Ext.refl _⟩)
    obtain rfl := h12_ hg1
    refine (does_load (u := (Fl r5)) (ev rfl) Try.isAgg24 (Cells.at (Blk.cells (hB10.ext hu)) 2 rfl)).mono ?_; rintro _ _ ⟨rfl, rfl⟩
    exact ⟨fun _ => rfl, Ext.refl _⟩
  refine RW_d (fun v27 => [(.agg #[(Fl r1), (Fl r3), (Fl r5)]), (Pt b8 0), (Bo false), v16, v17, v18, v19, v20, v21, v22, v23, v24, v25, v26, v27, Ud]) rfl (fun _ => rfl) (fun u hu hF => ?_) (fun v27 => ?_)
  · have h13_ : (β1 && β2) = true → v26 = (Fl r5) := hF.1
    have h11_ : v24 = (Bo (β1 && β2)) := hF.2.1
    clear hF
    obtain rfl := h11_
    refine doesG_g (b := (β1 && β2)) rfl (yld rfl rfl) (fun hg1 => ?_) (fun hc => ⟨fun hg1 => absurd hg1 hc, Ext.refl _⟩)
    obtain rfl := h13_ hg1
    refine (does_fcmp (.inl rfl) (ev rfl) (ev rfl)).mono ?_; rintro _ _ ⟨rfl, rfl⟩
    exact ⟨fun _ => (by first | rfl | (show _ = _; simp only [hβ3])), Ext.refl _⟩
  refine RW_d (fun v28 => [(.agg #[(Fl r1), (Fl r3), (Fl r5)]), (Pt b8 0), (Bo false), v16, v17, v18, v19, v20, v21, v22, v23, v24, v25, v26, v27, v28]) rfl (fun _ => rfl) (fun u hu hF => ?_) (fun v28 => ?_)
  · have h11_ : v24 = (Bo (β1 && β2)) := hF.1
    have h14_ : (β1 && β2) = true → v27 = (Bo β3) := hF.2.1
    clear hF
    refine doesG_un rfl ?_
    skip
    obtain rfl := h11_
    refine (does_pick (b := (β1 && β2)) (ev rfl) (ev rfl) (ev rfl)).mono ?_; rintro _ _ ⟨rfl, rfl⟩; refine ⟨?_, Ext.refl _⟩; skip
    cases hbb : (β1 && β2) <;> simp [hbb] at h14_ ⊢
    all_goals (first | rfl | (subst h14_; rfl) | simp_all)
  refine RW_fin ?_; intro w29 E30 hP31
  obtain ⟨⟨⟨⟨⟨⟨⟨⟨⟨⟨⟨⟨⟨-, -⟩, -⟩, -⟩, -⟩, -⟩, -⟩, -⟩, -⟩, -⟩, -⟩, -⟩, -⟩, q32⟩ := hP31
  have X33 := Ext.gr X14 E30
  have q32 : v28 = (Bo ((β1 && β2) && β3)) := q32
  obtain rfl := q32
  show wpList _ _ _ _ (fr [(.agg #[(Fl r1), (Fl r3), (Fl r5)]), (Pt b8 0), (Bo false), v16, v17, v18, v19, v20, v21, v22, v23, v24, v25, v26, v27, (Bo ((β1 && β2) && β3))]) _
  refine q_is (l' := [(.agg #[(Fl r1), (Fl r3), (Fl r5)]), (Pt b8 0), (Bo ((β1 && β2) && β3)), v16, v17, v18, v19, v20, v21, v22, v23, v24, v25, v26, v27, (Bo ((β1 && β2) && β3))]) rfl rfl (does_assign (u := (Bo ((β1 && β2) && β3))) (ev rfl)) rfl ?_
  refine wpList_nil (hK15 _ _ ?_)
  refine wp_ret ?_
  refine ret_val (v := (Bo ((β1 && β2) && β3))) (res_T rfl (slot rfl)) X33 ?_
  have x34 : (zeroV A_v) = ((β1 && β2) && β3) := by first | with_reducible rfl | (simp only [zeroV, h2, h4, h6, hβ1, hβ2, hβ3]; done) | (simp [zeroV, h2, h4, h6, hβ1, hβ2, hβ3]; done) | rfl
  exact (by first | rfl | rw [x34])

/- impl.ValidCamera -/
theorem c_impl_ValidCamera (c : List Value) (A_c : CamT) (w : World) (hv_c : RCamT w A_c c) : Gives Try.prog 25 #[(.agg c.toArray)] w (fun v w' => v = (Bo (isCam A_c))) := by
  obtain ⟨r1, r3, r5, r7, r9, r11, r13, rfl, h2, h4, h6, h8, h10, h12, h14⟩ := hv_c
  refine enter [(.agg #[(Fl r1), (Fl r3), (Fl r5), (Fl r7), (Fl r9), (Fl r11), (Fl r13), (Iv A_c.width), (Iv A_c.height)]), Ud, Ud, Ud, Ud, Ud, Ud, Ud, Ud, Ud, Ud, Ud, Ud, Ud, Ud, Ud, Ud, Ud, Ud, Ud, Ud, Ud, Ud, Ud, Ud, Ud, Ud, Ud, Ud, Ud, Ud, Ud, Ud, Ud, Ud, Ud, Ud, Ud, Ud, Ud, Ud, Ud, Ud, Ud, Ud, Ud] Try.func25 rfl Try.ntmps25 rfl ?_
  refine wp_seq_k fun K15 hK15 => ?_
  refine wp_region_lit ?_
  refine seqd rfl rfl (does_box (u := (.agg #[(Fl r1), (Fl r3), (Fl r5), (Fl r7), (Fl r9), (Fl r11), (Fl r13), (Iv A_c.width), (Iv A_c.height)])) (ev rfl)) ?_; rintro _ w20 ⟨b16, rfl, hb17, hB18, E19⟩
  have g21 : w.heap.size ≤ b16 := Nat.le_trans (Below.size (Ext.refl w)) hb17
  change Blk _ _ [(Fl r1), (Fl r3), (Fl r5), (Fl r7), (Fl r9), (Fl r11), (Fl r13), (Iv A_c.width), (Iv A_c.height)] at hB18
  have X22 := Ext.gr (Ext.refl w) E19
  show wpList _ _ _ _ (fr [(.agg #[(Fl r1), (Fl r3), (Fl r5), (Fl r7), (Fl r9), (Fl r11), (Fl r13), (Iv A_c.width), (Iv A_c.height)]), (Pt b16 0), Ud, Ud, Ud, Ud, Ud, Ud, Ud, Ud, Ud, Ud, Ud, Ud, Ud, Ud, Ud, Ud, Ud, Ud, Ud, Ud, Ud, Ud, Ud, Ud, Ud, Ud, Ud, Ud, Ud, Ud, Ud, Ud, Ud, Ud, Ud, Ud, Ud, Ud, Ud, Ud, Ud, Ud, Ud, Ud]) _
  refine q_is (l' := [(.agg #[(Fl r1), (Fl r3), (Fl r5), (Fl r7), (Fl r9), (Fl r11), (Fl r13), (Iv A_c.width), (Iv A_c.height)]), (Pt b16 0), (Bo false), Ud, Ud, Ud, Ud, Ud, Ud, Ud, Ud, Ud, Ud, Ud, Ud, Ud, Ud, Ud, Ud, Ud, Ud, Ud, Ud, Ud, Ud, Ud, Ud, Ud, Ud, Ud, Ud, Ud, Ud, Ud, Ud, Ud, Ud, Ud, Ud, Ud, Ud, Ud, Ud, Ud, Ud, Ud]) rfl rfl (does_assign (u := (Bo false)) (ev rfl)) rfl ?_
  refine wpList_nil (hK15 _ _ ?_)
  refine wp_seq_k fun K23 hK23 => ?_
  refine wp_region_lit ?_
  refine seqd rfl rfl (does_call (args := #[(Pt b16 0)]) cal65 (evs rfl) (c_impl_Camera_axes b16 0 [(Fl r1), (Fl r3), (Fl r5), (Fl r7), (Fl r9), (Fl r11), (Fl r13), (Iv A_c.width), (Iv A_c.height)] A_c _ (Blk.cells hB18) ⟨r1, r3, r5, r7, r9, r11, r13, rfl, h2, h4, h6, h8, h10, h12, h14⟩)) ?_; rintro _ w25 ⟨E24, ⟨_, _, _, rfl, ⟨r26, r28, r30, rfl, h27, h29, h31⟩, ⟨r32, r34, r36, rfl, h33, h35, h37⟩, ⟨r38, r40, r42, rfl, h39, h41, h43⟩⟩⟩
  have X44 := Ext.gr X22 E24
  show wpList _ _ _ _ (fr [(.agg #[(Fl r1), (Fl r3), (Fl r5), (Fl r7), (Fl r9), (Fl r11), (Fl r13), (Iv A_c.width), (Iv A_c.height)]), (Pt b16 0), (Bo false), Ud, Ud, Ud, Ud, Ud, (.tuple #[(.agg #[(Fl r26), (Fl r28), (Fl r30)]), (.agg #[(Fl r32), (Fl r34), (Fl r36)]), (.agg #[(Fl r38), (Fl r40), (Fl r42)])]), Ud, Ud, Ud, Ud, Ud, Ud, Ud, Ud, Ud, Ud, Ud, Ud, Ud, Ud, Ud, Ud, Ud, Ud, Ud, Ud, Ud, Ud, Ud, Ud, Ud, Ud, Ud, Ud, Ud, Ud, Ud, Ud, Ud, Ud, Ud, Ud, Ud]) _
  refine q_is (l' := [(.agg #[(Fl r1), (Fl r3), (Fl r5), (Fl r7), (Fl r9), (Fl r11), (Fl r13), (Iv A_c.width), (Iv A_c.height)]), (Pt b16 0), (Bo false), Ud, Ud, Ud, Ud, (.tuple #[(.agg #[(Fl r26), (Fl r28), (Fl r30)]), (.agg #[(Fl r32), (Fl r34), (Fl r36)]), (.agg #[(Fl r38), (Fl r40), (Fl r42)])]), (.tuple #[(.agg #[(Fl r26), (Fl r28), (Fl r30)]), (.agg #[(Fl r32), (Fl r34), (Fl r36)]), (.agg #[(Fl r38), (Fl r40), (Fl r42)])]), Ud, Ud, Ud, Ud, Ud, Ud, Ud, Ud, Ud, Ud, Ud, Ud, Ud, Ud, Ud, Ud, Ud, Ud, Ud, Ud, Ud, Ud, Ud, Ud, Ud, Ud, Ud, Ud, Ud, Ud, Ud, Ud, Ud, Ud, Ud, Ud, Ud]) rfl rfl (does_move (u := (.tuple #[(.agg #[(Fl r26), (Fl r28), (Fl r30)]), (.agg #[(Fl r32), (Fl r34), (Fl r36)]), (.agg #[(Fl r38), (Fl r40), (Fl r42)])])) (ev rfl)) rfl ?_
  refine q_is (l' := [(.agg #[(Fl r1), (Fl r3), (Fl r5), (Fl r7), (Fl r9), (Fl r11), (Fl r13), (Iv A_c.width), (Iv A_c.height)]), (Pt b16 0), (Bo false), Ud, Ud, Ud, Ud, (.tuple #[(.agg #[(Fl r26), (Fl r28), (Fl r30)]), (.agg #[(Fl r32), (Fl r34), (Fl r36)]), (.agg #[(Fl r38), (Fl r40), (Fl r42)])]), (.tuple #[(.agg #[(Fl r26), (Fl r28), (Fl r30)]), (.agg #[(Fl r32), (Fl r34), (Fl r36)]), (.agg #[(Fl r38), (Fl r40), (Fl r42)])]), (.agg #[(Fl r26), (Fl r28), (Fl r30)]), Ud, Ud, Ud, Ud, Ud, Ud, Ud, Ud, Ud, Ud, Ud, Ud, Ud, Ud, Ud, Ud, Ud, Ud, Ud, Ud, Ud, Ud, Ud, Ud, Ud, Ud, Ud, Ud, Ud, Ud, Ud, Ud, Ud, Ud, Ud, Ud]) rfl rfl (does_extract (vs := #[(.agg #[(Fl r26), (Fl r28), (Fl r30)]), (.agg #[(Fl r32), (Fl r34), (Fl r36)]), (.agg #[(Fl r38), (Fl r40), (Fl r42)])]) (u := (.agg #[(Fl r26), (Fl r28), (Fl r30)])) (ev rfl) rfl) rfl ?_
  refine q_is (l' := [(.agg #[(Fl r1), (Fl r3), (Fl r5), (Fl r7), (Fl r9), (Fl r11), (Fl r13), (Iv A_c.width), (Iv A_c.height)]), (Pt b16 0), (Bo false), Ud, Ud, Ud, Ud, (.tuple #[(.agg #[(Fl r26), (Fl r28), (Fl r30)]), (.agg #[(Fl r32), (Fl r34), (Fl r36)]), (.agg #[(Fl r38), (Fl r40), (Fl r42)])]), (.tuple #[(.agg #[(Fl r26), (Fl r28), (Fl r30)]), (.agg #[(Fl r32), (Fl r34), (Fl r36)]), (.agg #[(Fl r38), (Fl r40), (Fl r42)])]), (.agg #[(Fl r26), (Fl r28), (Fl r30)]), (.agg #[(Fl r32), (Fl r34), (Fl r36)]), Ud, Ud, Ud, Ud, Ud, Ud, Ud, Ud, Ud, Ud, Ud, Ud, Ud, Ud, Ud, Ud, Ud, Ud, Ud, Ud, Ud, Ud, Ud, Ud, Ud, Ud, Ud, Ud, Ud, Ud, Ud, Ud, Ud, Ud, Ud]) rfl rfl (does_extract (vs := #[(.agg #[(Fl r26), (Fl r28), (Fl r30)]), (.agg #[(Fl r32), (Fl r34), (Fl r36)]), (.agg #[(Fl r38), (Fl r40), (Fl r42)])]) (u := (.agg #[(Fl r32), (Fl r34), (Fl r36)])) (ev rfl) rfl) rfl ?_
  refine q_is (l' := [(.agg #[(Fl r1), (Fl r3), (Fl r5), (Fl r7), (Fl r9), (Fl r11), (Fl r13), (Iv A_c.width), (Iv A_c.height)]), (Pt b16 0), (Bo false), Ud, Ud, Ud, Ud, (.tuple #[(.agg #[(Fl r26), (Fl r28), (Fl r30)]), (.agg #[(Fl r32), (Fl r34), (Fl r36)]), (.agg #[(Fl r38), (Fl r40), (Fl r42)])]), (.tuple #[(.agg #[(Fl r26), (Fl r28), (Fl r30)]), (.agg #[(Fl r32), (Fl r34), (Fl r36)]), (.agg #[(Fl r38), (Fl r40), (Fl r42)])]), (.agg #[(Fl r26), (Fl r28), (Fl r30)]), (.agg #[(Fl r32), (Fl r34), (Fl r36)]), (.agg #[(Fl r38), (Fl r40), (Fl r42)]), Ud, Ud, Ud, Ud, Ud, Ud, Ud, Ud, Ud, Ud, Ud, Ud, Ud, Ud, Ud, Ud, Ud, Ud, Ud, Ud, Ud, Ud, Ud, Ud, Ud, Ud, Ud, Ud, Ud, Ud, Ud, Ud, Ud, Ud]) rfl rfl (does_extract (vs := #[(.agg #[(Fl r26), (Fl r28), (Fl r30)]), (.agg #[(Fl r32), (Fl r34), (Fl r36)]), (.agg #[(Fl r38), (Fl r40), (Fl r42)])]) (u := (.agg #[(Fl r38), (Fl r40), (Fl r42)])) (ev rfl) rfl) rfl ?_
  refine seqd rfl rfl (does_alloc z26) ?_; rintro _ w49 ⟨b45, rfl, hb46, hB47, E48⟩
  have n50 : b16 < b45 := Nat.lt_of_lt_of_le (Blk.lt (hB18.ext E24)) hb46
  have g51 : w.heap.size ≤ b45 := Nat.le_trans (Below.size X44) hb46
  change Blk _ _ [(Fl 0), (Fl 0), (Fl 0)] at hB47
  have X52 := Ext.gr X44 E48
  show wpList _ _ _ _ (fr [(.agg #[(Fl r1), (Fl r3), (Fl r5), (Fl r7), (Fl r9), (Fl r11), (Fl r13), (Iv A_c.width), (Iv A_c.height)]), (Pt b16 0), (Bo false), (Pt b45 0), Ud, Ud, Ud, (.tuple #[(.agg #[(Fl r26), (Fl r28), (Fl r30)]), (.agg #[(Fl r32), (Fl r34), (Fl r36)]), (.agg #[(Fl r38), (Fl r40), (Fl r42)])]), (.tuple #[(.agg #[(Fl r26), (Fl r28), (Fl r30)]), (.agg #[(Fl r32), (Fl r34), (Fl r36)]), (.agg #[(Fl r38), (Fl r40), (Fl r42)])]), (.agg #[(Fl r26), (Fl r28), (Fl r30)]), (.agg #[(Fl r32), (Fl r34), (Fl r36)]), (.agg #[(Fl r38), (Fl r40), (Fl r42)]), Ud, Ud, Ud, Ud, Ud, Ud, Ud, Ud, Ud, Ud, Ud, Ud, Ud, Ud, Ud, Ud, Ud, Ud, Ud, Ud, Ud, Ud, Ud, Ud, Ud, Ud, Ud, Ud, Ud, Ud, Ud, Ud, Ud, Ud]) _
  refine seqd rfl rfl (does_alloc z26) ?_; rintro _ w57 ⟨b53, rfl, hb54, hB55, E56⟩
  have n58 : b16 < b53 := Nat.lt_of_lt_of_le (Blk.lt ((hB18.ext E24).ext E48)) hb54
  have n59 : b45 < b53 := Nat.lt_of_lt_of_le (Blk.lt hB47) hb54
  have g60 : w.heap.size ≤ b53 := Nat.le_trans (Below.size X52) hb54
  change Blk _ _ [(Fl 0), (Fl 0), (Fl 0)] at hB55
  have X61 := Ext.gr X52 E56
  show wpList _ _ _ _ (fr [(.agg #[(Fl r1), (Fl r3), (Fl r5), (Fl r7), (Fl r9), (Fl r11), (Fl r13), (Iv A_c.width), (Iv A_c.height)]), (Pt b16 0), (Bo false), (Pt b45 0), (Pt b53 0), Ud, Ud, (.tuple #[(.agg #[(Fl r26), (Fl r28), (Fl r30)]), (.agg #[(Fl r32), (Fl r34), (Fl r36)]), (.agg #[(Fl r38), (Fl r40), (Fl r42)])]), (.tuple #[(.agg #[(Fl r26), (Fl r28), (Fl r30)]), (.agg #[(Fl r32), (Fl r34), (Fl r36)]), (.agg #[(Fl r38), (Fl r40), (Fl r42)])]), (.agg #[(Fl r26), (Fl r28), (Fl r30)]), (.agg #[(Fl r32), (Fl r34), (Fl r36)]), (.agg #[(Fl r38), (Fl r40), (Fl r42)]), Ud, Ud, Ud, Ud, Ud, Ud, Ud, Ud, Ud, Ud, Ud, Ud, Ud, Ud, Ud, Ud, Ud, Ud, Ud, Ud, Ud, Ud, Ud, Ud, Ud, Ud, Ud, Ud, Ud, Ud, Ud, Ud, Ud, Ud]) _
  refine seqd rfl rfl (does_alloc z26) ?_; rintro _ w66 ⟨b62, rfl, hb63, hB64, E65⟩
  have n67 : b16 < b62 := Nat.lt_of_lt_of_le (Blk.lt (((hB18.ext E24).ext E48).ext E56)) hb63
  have n68 : b45 < b62 := Nat.lt_of_lt_of_le (Blk.lt (hB47.ext E56)) hb63
  have n69 : b53 < b62 := Nat.lt_of_lt_of_le (Blk.lt hB55) hb63
  have g70 : w.heap.size ≤ b62 := Nat.le_trans (Below.size X61) hb63
  change Blk _ _ [(Fl 0), (Fl 0), (Fl 0)] at hB64
  have X71 := Ext.gr X61 E65
  show wpList _ _ _ _ (fr [(.agg #[(Fl r1), (Fl r3), (Fl r5), (Fl r7), (Fl r9), (Fl r11), (Fl r13), (Iv A_c.width), (Iv A_c.height)]), (Pt b16 0), (Bo false), (Pt b45 0), (Pt b53 0), (Pt b62 0), Ud, (.tuple #[(.agg #[(Fl r26), (Fl r28), (Fl r30)]), (.agg #[(Fl r32), (Fl r34), (Fl r36)]), (.agg #[(Fl r38), (Fl r40), (Fl r42)])]), (.tuple #[(.agg #[(Fl r26), (Fl r28), (Fl r30)]), (.agg #[(Fl r32), (Fl r34), (Fl r36)]), (.agg #[(Fl r38), (Fl r40), (Fl r42)])]), (.agg #[(Fl r26), (Fl r28), (Fl r30)]), (.agg #[(Fl r32), (Fl r34), (Fl r36)]), (.agg #[(Fl r38), (Fl r40), (Fl r42)]), Ud, Ud, Ud, Ud, Ud, Ud, Ud, Ud, Ud, Ud, Ud, Ud, Ud, Ud, Ud, Ud, Ud, Ud, Ud, Ud, Ud, Ud, Ud, Ud, Ud, Ud, Ud, Ud, Ud, Ud, Ud, Ud, Ud, Ud]) _
  refine seqn rfl rfl (does_store (n := 3) (cs := [(Fl 0), (Fl 0), (Fl 0)]) (u := (.agg #[(Fl r26), (Fl r28), (Fl r30)])) (ev rfl) (ev rfl) Try.sizeOf26 rfl ((hB47.ext E56).ext E65) (Nat.le_of_ble_eq_true rfl) rfl) ?_; rintro _ w74 ⟨rfl, W72, hB73⟩
  change Blk _ _ [(Fl r26), (Fl r28), (Fl r30)] at hB73
  have X75 := Below.wr X71 W72 g51
  refine seqn rfl rfl (does_store (n := 3) (cs := [(Fl 0), (Fl 0), (Fl 0)]) (u := (.agg #[(Fl r32), (Fl r34), (Fl r36)])) (ev rfl) (ev rfl) Try.sizeOf26 rfl ((hB55.ext E65).wr W72 (Nat.ne_of_gt n59)) (Nat.le_of_ble_eq_true rfl) rfl) ?_; rintro _ w78 ⟨rfl, W76, hB77⟩
  change Blk _ _ [(Fl r32), (Fl r34), (Fl r36)] at hB77
  have X79 := Below.wr X75 W76 g60
  refine seqn rfl rfl (does_store (n := 3) (cs := [(Fl 0), (Fl 0), (Fl 0)]) (u := (.agg #[(Fl r38), (Fl r40), (Fl r42)])) (ev rfl) (ev rfl) Try.sizeOf26 rfl ((hB64.wr W72 (Nat.ne_of_gt n68)).wr W76 (Nat.ne_of_gt n69)) (Nat.le_of_ble_eq_true rfl) rfl) ?_; rintro _ w82 ⟨rfl, W80, hB81⟩
  change Blk _ _ [(Fl r38), (Fl r40), (Fl r42)] at hB81
  have X83 := Below.wr X79 W80 g70
  refine wpList_nil (hK23 _ _ ?_)
  refine wp_seq_k fun K84 hK84 => ?_
  obtain ⟨β1, hβ1⟩ : ∃ b : Bool, b = ((inI A_c.width 1 12) && (inI A_c.height 1 12)) := ⟨_, rfl⟩
  obtain ⟨β2, hβ2⟩ : ∃ b : Bool, b = (finF (cf .f32 r13) && posF (cf .f32 r13)) := ⟨_, rfl⟩
  refine region_text (
    [Fact.pure [] (fun v => v = (Pt b16 7)),
    Fact.pure [12] (fun v => v = (Iv A_c.width)),
    Fact.pure [13] (fun v => v = (Bo (inI A_c.width 1 12))),
    Fact.pure [14] (fun v => v = (Bo (inI A_c.width 1 12))),
    Fact.pure [15] (fun v => (inI A_c.width 1 12) = true → v = (Pt b16 8)),
    Fact.pure [16, 15] (fun v => (inI A_c.width 1 12) = true → v = (Iv A_c.height)),
    Fact.pure [17, 15] (fun v => (inI A_c.width 1 12) = true → v = (Bo (inI A_c.height 1 12))),
    Fact.pure [15, 18] (fun v => v = (Bo β1)),
    Fact.pure [19] (fun v => v = (Bo β1)),
    Fact.pure [20] (fun v => β1 = true → v = (Pt b16 6)),
    Fact.pure [21, 20] (fun v => β1 = true → v = (Fl r13)),
    Fact.pure [22, 20] (fun v => β1 = true → v = (Bo β2)),
    Fact.pure [20, 23] (fun v => v = (Bo (β1 && β2)))]) (by simp [Fact.pure, Fact.mem]) ?_
  refine RW_d (fun v85 => [(.agg #[(Fl r1), (Fl r3), (Fl r5), (Fl r7), (Fl r9), (Fl r11), (Fl r13), (Iv A_c.width), (Iv A_c.height)]), (Pt b16 0), (Bo false), (Pt b45 0), (Pt b53 0), (Pt b62 0), Ud, (.tuple #[(.agg #[(Fl r26), (Fl r28), (Fl r30)]), (.agg #[(Fl r32), (Fl r34), (Fl r36)]), (.agg #[(Fl r38), (Fl r40), (Fl r42)])]), (.tuple #[(.agg #[(Fl r26), (Fl r28), (Fl r30)]), (.agg #[(Fl r32), (Fl r34), (Fl r36)]), (.agg #[(Fl r38), (Fl r40), (Fl r42)])]), (.agg #[(Fl r26), (Fl r28), (Fl r30)]), (.agg #[(Fl r32), (Fl r34), (Fl r36)]), (.agg #[(Fl r38), (Fl r40), (Fl r42)]), v85, Ud, Ud, Ud, Ud, Ud, Ud, Ud, Ud, Ud, Ud, Ud, Ud, Ud, Ud, Ud, Ud, Ud, Ud, Ud, Ud, Ud, Ud, Ud, Ud, Ud, Ud, Ud, Ud, Ud, Ud, Ud, Ud, Ud]) rfl (fun _ => rfl) (fun u hu hF => ?_) (fun v85 => ?_)
  · clear hF
    refine doesG_un rfl ?_
    refine (does_fieldAddr (ev rfl) fa48_3).mono ?_; rintro _ _ ⟨rfl, rfl⟩
    exact ⟨rfl, Ext.refl _⟩
  refine RW_d (fun v86 => [(.agg #[(Fl r1), (Fl r3), (Fl r5), (Fl r7), (Fl r9), (Fl r11), (Fl r13), (Iv A_c.width), (Iv A_c.height)]), (Pt b16 0), (Bo false), (Pt b45 0), (Pt b53 0), (Pt b62 0), Ud, (.tuple #[(.agg #[(Fl r26), (Fl r28), (Fl r30)]), (.agg #[(Fl r32), (Fl r34), (Fl r36)]), (.agg #[(Fl r38), (Fl r40), (Fl r42)])]), (.tuple #[(.agg #[(Fl r26), (Fl r28), (Fl r30)]), (.agg #[(Fl r32), (Fl r34), (Fl r36)]), (.agg #[(Fl r38), (Fl r40), (Fl r42)])]), (.agg #[(Fl r26), (Fl r28), (Fl r30)]), (.agg #[(Fl r32), (Fl r34), (Fl r36)]), (.agg #[(Fl r38), (Fl r40), (Fl r42)]), v85, v86, Ud, Ud, Ud, Ud, Ud, Ud, Ud, Ud, Ud, Ud, Ud, Ud, Ud, Ud, Ud, Ud, Ud, Ud, Ud, Ud, Ud, Ud, Ud, Ud, Ud, Ud, Ud, Ud, Ud, Ud, Ud, Ud]) rfl (fun _ => rfl) (fun u hu hF => ?_) (fun v86 => ?_)
  · have h12_ : v85 = (Pt b16 7) := hF.1
    clear hF
    refine doesG_un rfl ?_
    obtain rfl := h12_
    refine (does_load (u := (Iv A_c.width)) (ev rfl) Try.isAgg2 (Cells.at (Blk.cells ((((((((hB18.ext E24).ext E48).ext E56).ext E65).wr W72 (Nat.ne_of_lt n50)).wr W76 (Nat.ne_of_lt n58)).wr W80 (Nat.ne_of_lt n67)).ext hu)) 7 rfl)).mono ?_; rintro _ _ ⟨rfl, rfl⟩
    exact ⟨rfl, Ext.refl _⟩
  refine RW_d (fun v87 => [(.agg #[(Fl r1), (Fl r3), (Fl r5), (Fl r7), (Fl r9), (Fl r11), (Fl r13), (Iv A_c.width), (Iv A_c.height)]), (Pt b16 0), (Bo false), (Pt b45 0), (Pt b53 0), (Pt b62 0), Ud, (.tuple #[(.agg #[(Fl r26), (Fl r28), (Fl r30)]), (.agg #[(Fl r32), (Fl r34), (Fl r36)]), (.agg #[(Fl r38), (Fl r40), (Fl r42)])]), (.tuple #[(.agg #[(Fl r26), (Fl r28), (Fl r30)]), (.agg #[(Fl r32), (Fl r34), (Fl r36)]), (.agg #[(Fl r38), (Fl r40), (Fl r42)])]), (.agg #[(Fl r26), (Fl r28), (Fl r30)]), (.agg #[(Fl r32), (Fl r34), (Fl r36)]), (.agg #[(Fl r38), (Fl r40), (Fl r42)]), v85, v86, v87, Ud, Ud, Ud, Ud, Ud, Ud, Ud, Ud, Ud, Ud, Ud, Ud, Ud, Ud, Ud, Ud, Ud, Ud, Ud, Ud, Ud, Ud, Ud, Ud, Ud, Ud, Ud, Ud, Ud, Ud, Ud]) rfl (fun _ => rfl) (fun u hu hF => ?_) (fun v87 => ?_)
  · have h13_ : v86 = (Iv A_c.width) := hF.1
    clear hF
    refine doesG_un rfl ?_
    obtain rfl := h13_
    refine (does_call (args := #[(Iv A_c.width), (Iv 1), (Iv 12)]) cal56 (evs rfl) (c_impl_in A_c.width 1 12 _)).mono ?_; rintro v u' ⟨hx, hv⟩
    exact ⟨hv, hx⟩
  refine RW_d (fun v88 => [(.agg #[(Fl r1), (Fl r3), (Fl r5), (Fl r7), (Fl r9), (Fl r11), (Fl r13), (Iv A_c.width), (Iv A_c.height)]), (Pt b16 0), (Bo false), (Pt b45 0), (Pt b53 0), (Pt b62 0), Ud, (.tuple #[(.agg #[(Fl r26), (Fl r28), (Fl r30)]), (.agg #[(Fl r32), (Fl r34), (Fl r36)]), (.agg #[(Fl r38), (Fl r40), (Fl r42)])]), (.tuple #[(.agg #[(Fl r26), (Fl r28), (Fl r30)]), (.agg #[(Fl r32), (Fl r34), (Fl r36)]), (.agg #[(Fl r38), (Fl r40), (Fl r42)])]), (.agg #[(Fl r26), (Fl r28), (Fl r30)]), (.agg #[(Fl r32), (Fl r34), (Fl r36)]), (.agg #[(Fl r38), (Fl r40), (Fl r42)]), v85, v86, v87, v88, Ud, Ud, Ud, Ud, Ud, Ud, Ud, Ud, Ud, Ud, Ud, Ud, Ud, Ud, Ud, Ud, Ud, Ud, Ud, Ud, Ud, Ud, Ud, Ud, Ud, Ud, Ud, Ud, Ud, Ud]) rfl (fun _ => rfl) (fun u hu hF => ?_) (fun v88 => ?_)
  · have h14_ : v87 = (Bo (inI A_c.width 1 12)) := hF.1
    clear hF
    refine doesG_un rfl ?_
    obtain rfl := h14_
    refine (does_move (u := (Bo (inI A_c.width 1 12))) (ev rfl)).mono ?_; rintro _ _ ⟨rfl, rfl⟩
    exact ⟨rfl, Ext.refl _⟩
  refine RW_d (fun v89 => [(.agg #[(Fl r1), (Fl r3), (Fl r5), (Fl r7), (Fl r9), (Fl r11), (Fl r13), (Iv A_c.width), (Iv A_c.height)]), (Pt b16 0), (Bo false), (Pt b45 0), (Pt b53 0), (Pt b62 0), Ud, (.tuple #[(.agg #[(Fl r26), (Fl r28), (Fl r30)]), (.agg #[(Fl r32), (Fl r34), (Fl r36)]), (.agg #[(Fl r38), (Fl r40), (Fl r42)])]), (.tuple #[(.agg #[(Fl r26), (Fl r28), (Fl r30)]), (.agg #[(Fl r32), (Fl r34), (Fl r36)]), (.agg #[(Fl r38), (Fl r40), (Fl r42)])]), (.agg #[(Fl r26), (Fl r28), (Fl r30)]), (.agg #[(Fl r32), (Fl r34), (Fl r36)]), (.agg #[(Fl r38), (Fl r40), (Fl r42)]), v85, v86, v87, v88, v89, Ud, Ud, Ud, Ud, Ud, Ud, Ud, Ud, Ud, Ud, Ud, Ud, Ud, Ud, Ud, Ud, Ud, Ud, Ud, Ud, Ud, Ud, Ud, Ud, Ud, Ud, Ud, Ud, Ud]) rfl (fun _ => rfl) (fun u hu hF => ?_) (fun v89 => ?_)
  · have h15_ : v88 = (Bo (inI A_c.width 1 12)) := hF.1
    clear hF
    obtain rfl := h15_
    refine doesG_g (b := (inI A_c.width 1 12)) rfl (yld rfl rfl) (fun hg1 => ?_) (fun hc => ⟨fun hg1 => absurd hg1 hc, Ext.refl _⟩)
    refine (does_fieldAddr (ev rfl) fa48_4).mono ?_; rintro _ _ ⟨rfl, rfl⟩
    exact ⟨fun _ => rfl, Ext.refl _⟩
  refine RW_d (fun v90 => [(.agg #[(Fl r1), (Fl r3), (Fl r5), (Fl r7), (Fl r9), (Fl r11), (Fl r13), (Iv A_c.width), (Iv A_c.height)]), (Pt b16 0), (Bo false), (Pt b45 0), (Pt b53 0), (Pt b62 0), Ud, (.tuple #[(.agg #[(Fl r26), (Fl r28), (Fl r30)]), (.agg #[(Fl r32), (Fl r34), (Fl r36)]), (.agg #[(Fl r38), (Fl r40), (Fl r42)])]), (.tuple #[(.agg #[(Fl r26), (Fl r28), (Fl r30)]), (.agg #[(Fl r32), (Fl r34), (Fl r36)]), (.agg #[(Fl r38), (Fl r40), (Fl r42)])]), (.agg #[(Fl r26), (Fl r28), (Fl r30)]), (.agg #[(Fl r32), (Fl r34), (Fl r36)]), (.agg #[(Fl r38), (Fl r40), (Fl r42)]), v85, v86, v87, v88, v89, v90, Ud, Ud, Ud, Ud, Ud, Ud, Ud, Ud, Ud, Ud, Ud, Ud, Ud, Ud, Ud, Ud, Ud, Ud, Ud, Ud, Ud, Ud, Ud, Ud, Ud, Ud, Ud, Ud]) rfl (fun _ => rfl) (fun u hu hF => ?_) (fun v90 => ?_)
  · have h16_ : (inI A_c.width 1 12) = true → v89 = (Pt b16 8) := hF.1
    have h15_ : v88 = (Bo (inI A_c.width 1 12)) := hF.2.1
    clear hF
    obtain rfl := h15_
    refine doesG_g (b := (inI A_c.width 1 12)) rfl (yld rfl rfl) (fun hg1 => ?_) (fun hc => ⟨fun hg1 => absurd hg1 hc, Ext.refl _⟩)
    obtain rfl := h16_ hg1
    refine (does_load (u := (Iv A_c.height)) (ev rfl) Try.isAgg2 (Cells.at (Blk.cells ((((((((hB18.ext E24).ext E48).ext E56).ext E65).wr W72 (Nat.ne_of_lt n50)).wr W76 (Nat.ne_of_lt n58)).wr W80 (Nat.ne_of_lt n67)).ext hu)) 8 rfl)).mono ?_; rintro _ _ ⟨rfl, rfl⟩
    exact ⟨fun _ => rfl, Ext.refl _⟩
  refine RW_d (fun v91 => [(.agg #[(Fl r1), (Fl r3), (Fl r5), (Fl r7), (Fl r9), (Fl r11), (Fl r13), (Iv A_c.width), (Iv A_c.height)]), (Pt b16 0), (Bo false), (Pt b45 0), (Pt b53 0), (Pt b62 0), Ud, (.tuple #[(.agg #[(Fl r26), (Fl r28), (Fl r30)]), (.agg #[(Fl r32), (Fl r34), (Fl r36)]), (.agg #[(Fl r38), (Fl r40), (Fl r42)])]), (.tuple #[(.agg #[(Fl r26), (Fl r28), (Fl r30)]), (.agg #[(Fl r32), (Fl r34), (Fl r36)]), (.agg #[(Fl r38), (Fl r40), (Fl r42)])]), (.agg #[(Fl r26), (Fl r28), (Fl r30)]), (.agg #[(Fl r32), (Fl r34), (Fl r36)]), (.agg #[(Fl r38), (Fl r40), (Fl r42)]), v85, v86, v87, v88, v89, v90, v91, Ud, Ud, Ud, Ud, Ud, Ud, Ud, Ud, Ud, Ud, Ud, Ud, Ud, Ud, Ud, Ud, Ud, Ud, Ud, Ud, Ud, Ud, Ud, Ud, Ud, Ud, Ud]) rfl (fun _ => rfl) (fun u hu hF => ?_) (fun v91 => ?_)
  · have h17_ : (inI A_c.width 1 12) = true → v90 = (Iv A_c.height) := hF.1
    have h15_ : v88 = (Bo (inI A_c.width 1 12)) := hF.2.1
    clear hF
    obtain rfl := h15_
    refine doesG_g (b := (inI A_c.width 1 12)) rfl (yld rfl rfl) (fun hg1 => ?_) (fun hc => ⟨fun hg1 => absurd hg1 hc, Ext.refl _⟩)
    obtain rfl := h17_ hg1
    refine (does_call (args := #[(Iv A_c.height), (Iv 1), (Iv 12)]) cal56 (evs rfl) (c_impl_in A_c.height 1 12 _)).mono ?_; rintro v u' ⟨hx, hv⟩
    exact ⟨fun _ => hv, hx⟩
  refine RW_d (fun v92 => [(.agg #[(Fl r1), (Fl r3), (Fl r5), (Fl r7), (Fl r9), (Fl r11), (Fl r13), (Iv A_c.width), (Iv A_c.height)]), (Pt b16 0), (Bo false), (Pt b45 0), (Pt b53 0), (Pt b62 0), Ud, (.tuple #[(.agg #[(Fl r26), (Fl r28), (Fl r30)]), (.agg #[(Fl r32), (Fl r34), (Fl r36)]), (.agg #[(Fl r38), (Fl r40), (Fl r42)])]), (.tuple #[(.agg #[(Fl r26), (Fl r28), (Fl r30)]), (.agg #[(Fl r32), (Fl r34), (Fl r36)]), (.agg #[(Fl r38), (Fl r40), (Fl r42)])]), (.agg #[(Fl r26), (Fl r28), (Fl r30)]), (.agg #[(Fl r32), (Fl r34), (Fl r36)]), (.agg #[(Fl r38), (Fl r40), (Fl r42)]), v85, v86, v87, v88, v89, v90, v91, v92, Ud, Ud, Ud, Ud, Ud, Ud, Ud, Ud, Ud, Ud, Ud, Ud, Ud, Ud, Ud, Ud, Ud, Ud, Ud, Ud, Ud, Ud, Ud, Ud, Ud, Ud]) rfl (fun _ => rfl) (fun u hu hF => ?_) (fun v92 => ?_)
  · have h15_ : v88 = (Bo (inI A_c.width 1 12)) := hF.1
    have h18_ : (inI A_c.width 1 12) = true → v91 = (Bo (inI A_c.height 1 12)) := hF.2.1
    clear hF
    refine doesG_un rfl ?_
    skip
    obtain rfl := h15_
    refine (does_pick (b := (inI A_c.width 1 12)) (ev rfl) (ev rfl) (ev rfl)).mono ?_; rintro _ _ ⟨rfl, rfl⟩; refine ⟨?_, Ext.refl _⟩; rw [hβ1]; skip
    cases hbb : (inI A_c.width 1 12) <;> simp [hbb] at h18_ ⊢
    all_goals (first | rfl | (subst h18_; rfl) | simp_all)
  refine RW_d (fun v93 => [(.agg #[(Fl r1), (Fl r3), (Fl r5), (Fl r7), (Fl r9), (Fl r11), (Fl r13), (Iv A_c.width), (Iv A_c.height)]), (Pt b16 0), (Bo false), (Pt b45 0), (Pt b53 0), (Pt b62 0), Ud, (.tuple #[(.agg #[(Fl r26), (Fl r28), (Fl r30)]), (.agg #[(Fl r32), (Fl r34), (Fl r36)]), (.agg #[(Fl r38), (Fl r40), (Fl r42)])]), (.tuple #[(.agg #[(Fl r26), (Fl r28), (Fl r30)]), (.agg #[(Fl r32), (Fl r34), (Fl r36)]), (.agg #[(Fl r38), (Fl r40), (Fl r42)])]), (.agg #[(Fl r26), (Fl r28), (Fl r30)]), (.agg #[(Fl r32), (Fl r34), (Fl r36)]), (.agg #[(Fl r38), (Fl r40), (Fl r42)]), v85, v86, v87, v88, v89, v90, v91, v92, v93, Ud, Ud, Ud, Ud, Ud, Ud, Ud, Ud, Ud, Ud, Ud, Ud, Ud, Ud, Ud, Ud, Ud, Ud, Ud, Ud, Ud, Ud, Ud, Ud, Ud]) rfl (fun _ => rfl) (fun u hu hF => ?_) (fun v93 => ?_)
  · have h19_ : v92 = (Bo β1) := hF.1
    clear hF
    refine doesG_un rfl ?_
    obtain rfl := h19_
    refine (does_move (u := (Bo β1)) (ev rfl)).mono ?_; rintro _ _ ⟨rfl, rfl⟩
    exact ⟨rfl, Ext.refl _⟩
  refine RW_d (fun v94 => [(.agg #[(Fl r1), (Fl r3), (Fl r5), (Fl r7), (Fl r9), (Fl r11), (Fl r13), (Iv A_c.width), (Iv A_c.height)]), (Pt b16 0), (Bo false), (Pt b45 0), (Pt b53 0), (Pt b62 0), Ud, (.tuple #[(.agg #[(Fl r26), (Fl r28), (Fl r30)]), (.agg #[(Fl r32), (Fl r34), (Fl r36)]), (.agg #[(Fl r38), (Fl r40), (Fl r42)])]), (.tuple #[(.agg #[(Fl r26), (Fl r28), (Fl r30)]), (.agg #[(Fl r32), (Fl r34), (Fl r36)]), (.agg #[(Fl r38), (Fl r40), (Fl r42)])]), (.agg #[(Fl r26), (Fl r28), (Fl r30)]), (.agg #[(Fl r32), (Fl r34), (Fl r36)]), (.agg #[(Fl r38), (Fl r40), (Fl r42)]), v85, v86, v87, v88, v89, v90, v91, v92, v93, v94, Ud, Ud, Ud, Ud, Ud, Ud, Ud, Ud, Ud, Ud, Ud, Ud, Ud, Ud, Ud, Ud, Ud, Ud, Ud, Ud, Ud, Ud, Ud, Ud]) rfl (fun _ => rfl) (fun u hu hF => ?_) (fun v94 => ?_)
  · have h20_ : v93 = (Bo β1) := hF.1
    clear hF
    obtain rfl := h20_
    refine doesG_g (b := β1) rfl (yld rfl rfl) (fun hg1 => ?_) (fun hc => ⟨fun hg1 => absurd hg1 hc, Ext.refl _⟩)
    refine (does_fieldAddr (ev rfl) fa48_2).mono ?_; rintro _ _ ⟨rfl, rfl⟩
    exact ⟨fun _ => rfl, Ext.refl _⟩
  refine RW_d (fun v95 => [(.agg #[(Fl r1), (Fl r3), (Fl r5), (Fl r7), (Fl r9), (Fl r11), (Fl r13), (Iv A_c.width), (Iv A_c.height)]), (Pt b16 0), (Bo false), (Pt b45 0), (Pt b53 0), (Pt b62 0), Ud, (.tuple #[(.agg #[(Fl r26), (Fl r28), (Fl r30)]), (.agg #[(Fl r32), (Fl r34), (Fl r36)]), (.agg #[(Fl r38), (Fl r40), (Fl r42)])]), (.tuple #[(.agg #[(Fl r26), (Fl r28), (Fl r30)]), (.agg #[(Fl r32), (Fl r34), (Fl r36)]), (.agg #[(Fl r38), (Fl r40), (Fl r42)])]), (.agg #[(Fl r26), (Fl r28), (Fl r30)]), (.agg #[(Fl r32), (Fl r34), (Fl r36)]), (.agg #[(Fl r38), (Fl r40), (Fl r42)]), v85, v86, v87, v88, v89, v90, v91, v92, v93, v94, v95, Ud, Ud, Ud, Ud, Ud, Ud, Ud, Ud, Ud, Ud, Ud, Ud, Ud, Ud, Ud, Ud, Ud, Ud, Ud, Ud, Ud, Ud, Ud]) rfl (fun _ => rfl) (fun u hu hF => ?_) (fun v95 => ?_)
  · have h21_ : β1 = true → v94 = (Pt b16 6) := hF.1
    have h20_ : v93 = (Bo β1) := hF.2.1
    clear hF
    obtain rfl := h20_
    refine doesG_g (b := β1) rfl (yld rfl rfl) (fun hg1 => ?_) (fun hc => ⟨fun hg1 => absurd hg1 hc, Ext.refl _⟩)
    obtain rfl := h21_ hg1
    refine (does_load (u := (Fl r13)) (ev rfl) Try.isAgg24 (Cells.at (Blk.cells ((((((((hB18.ext E24).ext E48).ext E56).ext E65).wr W72 (Nat.ne_of_lt n50)).wr W76 (Nat.ne_of_lt n58)).wr W80 (Nat.ne_of_lt n67)).ext hu)) 6 rfl)).mono ?_; rintro _ _ ⟨rfl, rfl⟩
    exact ⟨fun _ => rfl, Ext.refl _⟩
  refine RW_d (fun v96 => [(.agg #[(Fl r1), (Fl r3), (Fl r5), (Fl r7), (Fl r9), (Fl r11), (Fl r13), (Iv A_c.width), (Iv A_c.height)]), (Pt b16 0), (Bo false), (Pt b45 0), (Pt b53 0), (Pt b62 0), Ud, (.tuple #[(.agg #[(Fl r26), (Fl r28), (Fl r30)]), (.agg #[(Fl r32), (Fl r34), (Fl r36)]), (.agg #[(Fl r38), (Fl r40), (Fl r42)])]), (.tuple #[(.agg #[(Fl r26), (Fl r28), (Fl r30)]), (.agg #[(Fl r32), (Fl r34), (Fl r36)]), (.agg #[(Fl r38), (Fl r40), (Fl r42)])]), (.agg #[(Fl r26), (Fl r28), (Fl r30)]), (.agg #[(Fl r32), (Fl r34), (Fl r36)]), (.agg #[(Fl r38), (Fl r40), (Fl r42)]), v85, v86, v87, v88, v89, v90, v91, v92, v93, v94, v95, v96, Ud, Ud, Ud, Ud, Ud, Ud, Ud, Ud, Ud, Ud, Ud, Ud, Ud, Ud, Ud, Ud, Ud, Ud, Ud, Ud, Ud, Ud]) rfl (fun _ => rfl) (fun u hu hF => ?_) (fun v96 => ?_)
  · have h22_ : β1 = true → v95 = (Fl r13) := hF.1
    have h20_ : v93 = (Bo β1) := hF.2.1
    clear hF
    obtain rfl := h20_
    refine doesG_g (b := β1) rfl (yld rfl rfl) (fun hg1 => ?_) (fun hc => ⟨fun hg1 => absurd hg1 hc, Ext.refl _⟩)
    obtain rfl := h22_ hg1
    refine (does_call (args := #[(Fl r13)]) cal66 (evs rfl) (c_impl_stepOk r13 _)).mono ?_; rintro v u' ⟨hx, hv⟩
    exact ⟨fun _ => hv.trans (by simp only [hβ2]), hx⟩
  refine RW_d (fun v97 => [(.agg #[(Fl r1), (Fl r3), (Fl r5), (Fl r7), (Fl r9), (Fl r11), (Fl r13), (Iv A_c.width), (Iv A_c.height)]), (Pt b16 0), (Bo false), (Pt b45 0), (Pt b53 0), (Pt b62 0), Ud, (.tuple #[(.agg #[(Fl r26), (Fl r28), (Fl r30)]), (.agg #[(Fl r32), (Fl r34), (Fl r36)]), (.agg #[(Fl r38), (Fl r40), (Fl r42)])]), (.tuple #[(.agg #[(Fl r26), (Fl r28), (Fl r30)]), (.agg #[(Fl r32), (Fl r34), (Fl r36)]), (.agg #[(Fl r38), (Fl r40), (Fl r42)])]), (.agg #[(Fl r26), (Fl r28), (Fl r30)]), (.agg #[(Fl r32), (Fl r34), (Fl r36)]), (.agg #[(Fl r38), (Fl r40), (Fl r42)]), v85, v86, v87, v88, v89, v90, v91, v92, v93, v94, v95, v96, v97, Ud, Ud, Ud, Ud, Ud, Ud, Ud, Ud, Ud, Ud, Ud, Ud, Ud, Ud, Ud, Ud, Ud, Ud, Ud, Ud, Ud]) rfl (fun _ => rfl) (fun u hu hF => ?_) (fun v97 => ?_)
  · have h20_ : v93 = (Bo β1) := hF.1
    have h23_ : β1 = true → v96 = (Bo β2) := hF.2.1
    clear hF
    refine doesG_un rfl ?_
    skip
    obtain rfl := h20_
    refine (does_pick (b := β1) (ev rfl) (ev rfl) (ev rfl)).mono ?_; rintro _ _ ⟨rfl, rfl⟩; refine ⟨?_, Ext.refl _⟩; skip
    cases hbb : β1 <;> simp [hbb] at h23_ ⊢
    all_goals (first | rfl | (subst h23_; rfl) | simp_all)
  refine RW_fin ?_; intro w98 E99 hP100
  obtain ⟨⟨⟨⟨⟨⟨⟨⟨⟨⟨⟨⟨⟨-, -⟩, -⟩, -⟩, -⟩, -⟩, -⟩, -⟩, -⟩, -⟩, -⟩, -⟩, -⟩, q101⟩ := hP100
  have X102 := Ext.gr X83 E99
  have q101 : v97 = (Bo (β1 && β2)) := q101
  obtain rfl := q101
  show wpList _ _ _ _ (fr [(.agg #[(Fl r1), (Fl r3), (Fl r5), (Fl r7), (Fl r9), (Fl r11), (Fl r13), (Iv A_c.width), (Iv A_c.height)]), (Pt b16 0), (Bo false), (Pt b45 0), (Pt b53 0), (Pt b62 0), Ud, (.tuple #[(.agg #[(Fl r26), (Fl r28), (Fl r30)]), (.agg #[(Fl r32), (Fl r34), (Fl r36)]), (.agg #[(Fl r38), (Fl r40), (Fl r42)])]), (.tuple #[(.agg #[(Fl r26), (Fl r28), (Fl r30)]), (.agg #[(Fl r32), (Fl r34), (Fl r36)]), (.agg #[(Fl r38), (Fl r40), (Fl r42)])]), (.agg #[(Fl r26), (Fl r28), (Fl r30)]), (.agg #[(Fl r32), (Fl r34), (Fl r36)]), (.agg #[(Fl r38), (Fl r40), (Fl r42)]), v85, v86, v87, v88, v89, v90, v91, v92, v93, v94, v95, v96, (Bo (β1 && β2)), Ud, Ud, Ud, Ud, Ud, Ud, Ud, Ud, Ud, Ud, Ud, Ud, Ud, Ud, Ud, Ud, Ud, Ud, Ud, Ud, Ud]) _
  refine q_is (l' := [(.agg #[(Fl r1), (Fl r3), (Fl r5), (Fl r7), (Fl r9), (Fl r11), (Fl r13), (Iv A_c.width), (Iv A_c.height)]), (Pt b16 0), (Bo false), (Pt b45 0), (Pt b53 0), (Pt b62 0), (Bo (β1 && β2)), (.tuple #[(.agg #[(Fl r26), (Fl r28), (Fl r30)]), (.agg #[(Fl r32), (Fl r34), (Fl r36)]), (.agg #[(Fl r38), (Fl r40), (Fl r42)])]), (.tuple #[(.agg #[(Fl r26), (Fl r28), (Fl r30)]), (.agg #[(Fl r32), (Fl r34), (Fl r36)]), (.agg #[(Fl r38), (Fl r40), (Fl r42)])]), (.agg #[(Fl r26), (Fl r28), (Fl r30)]), (.agg #[(Fl r32), (Fl r34), (Fl r36)]), (.agg #[(Fl r38), (Fl r40), (Fl r42)]), v85, v86, v87, v88, v89, v90, v91, v92, v93, v94, v95, v96, (Bo (β1 && β2)), Ud, Ud, Ud, Ud, Ud, Ud, Ud, Ud, Ud, Ud, Ud, Ud, Ud, Ud, Ud, Ud, Ud, Ud, Ud, Ud, Ud]) rfl rfl (does_assign (u := (Bo (β1 && β2))) (ev rfl)) rfl ?_
  refine wpList_nil (hK84 _ _ ?_)
  refine wp_seq_k fun K103 hK103 => ?_
  obtain ⟨β3, hβ3⟩ : ∃ b : Bool, b = ((β1 && β2) && (finV A_c.frm)) := ⟨_, rfl⟩
  obtain ⟨β4, hβ4⟩ : ∃ b : Bool, b = ((β3 && (finV A_c.to)) && (!(zeroV (rgtC A_c)))) := ⟨_, rfl⟩
  obtain ⟨β5, hβ5⟩ : ∃ b : Bool, b = (β4 && (!(zeroV (fwdC A_c)))) := ⟨_, rfl⟩
  refine region_text (
    [Fact.pure [] (fun v => v = (Bo (β1 && β2))),
    Fact.pure [25] (fun v => v = (Bo (β1 && β2))),
    Fact.pure [26] (fun v => (β1 && β2) = true → v = (Pt b16 0)),
    Fact.pure [27, 26] (fun v => (β1 && β2) = true → v = (.agg #[(Fl r1), (Fl r3), (Fl r5)])),
    Fact.pure [28, 26] (fun v => (β1 && β2) = true → v = (Bo (finV A_c.frm))),
    Fact.pure [26, 29] (fun v => v = (Bo β3)),
    Fact.pure [30] (fun v => v = (Bo β3)),
    Fact.pure [31] (fun v => β3 = true → v = (Pt b16 3)),
    Fact.pure [32, 31] (fun v => β3 = true → v = (.agg #[(Fl r7), (Fl r9), (Fl r11)])),
    Fact.pure [33, 31] (fun v => β3 = true → v = (Bo (finV A_c.to))),
    Fact.pure [31, 34] (fun v => v = (Bo (β3 && (finV A_c.to)))),
    Fact.pure [35] (fun v => v = (Bo (β3 && (finV A_c.to)))),
    Fact.pure [36] (fun v => (β3 && (finV A_c.to)) = true → v = (.agg #[(Fl r26), (Fl r28), (Fl r30)])),
    Fact.pure [37, 36] (fun v => (β3 && (finV A_c.to)) = true → v = (Bo (zeroV (rgtC A_c)))),
    Fact.pure [38, 36] (fun v => (β3 && (finV A_c.to)) = true → v = (Bo (!(zeroV (rgtC A_c))))),
    Fact.pure [36, 39] (fun v => v = (Bo β4)),
    Fact.pure [40] (fun v => v = (Bo β4)),
    Fact.pure [41] (fun v => β4 = true → v = (.agg #[(Fl r38), (Fl r40), (Fl r42)])),
    Fact.pure [42, 41] (fun v => β4 = true → v = (Bo (zeroV (fwdC A_c)))),
    Fact.pure [43, 41] (fun v => β4 = true → v = (Bo (!(zeroV (fwdC A_c))))),
    Fact.pure [41, 44] (fun v => v = (Bo β5))]) (by simp [Fact.pure, Fact.mem]) ?_
  refine RW_d (fun v104 => [(.agg #[(Fl r1), (Fl r3), (Fl r5), (Fl r7), (Fl r9), (Fl r11), (Fl r13), (Iv A_c.width), (Iv A_c.height)]), (Pt b16 0), (Bo false), (Pt b45 0), (Pt b53 0), (Pt b62 0), (Bo (β1 && β2)), (.tuple #[(.agg #[(Fl r26), (Fl r28), (Fl r30)]), (.agg #[(Fl r32), (Fl r34), (Fl r36)]), (.agg #[(Fl r38), (Fl r40), (Fl r42)])]), (.tuple #[(.agg #[(Fl r26), (Fl r28), (Fl r30)]), (.agg #[(Fl r32), (Fl r34), (Fl r36)]), (.agg #[(Fl r38), (Fl r40), (Fl r42)])]), (.agg #[(Fl r26), (Fl r28), (Fl r30)]), (.agg #[(Fl r32), (Fl r34), (Fl r36)]), (.agg #[(Fl r38), (Fl r40), (Fl r42)]), v85, v86, v87, v88, v89, v90, v91, v92, v93, v94, v95, v96, (Bo (β1 && β2)), v104, Ud, Ud, Ud, Ud, Ud, Ud, Ud, Ud, Ud, Ud, Ud, Ud, Ud, Ud, Ud, Ud, Ud, Ud, Ud, Ud]) rfl (fun _ => rfl) (fun u hu hF => ?_) (fun v104 => ?_)
  · clear hF
    refine doesG_un rfl ?_
    refine (does_move (u := (Bo (β1 && β2))) (ev rfl)).mono ?_; rintro _ _ ⟨rfl, rfl⟩
    exact ⟨rfl, Ext.refl _⟩
  refine RW_d (fun v105 => [(.agg #[(Fl r1), (Fl r3), (Fl r5), (Fl r7), (Fl r9), (Fl r11), (Fl r13), (Iv A_c.width), (Iv A_c.height)]), (Pt b16 0), (Bo false), (Pt b45 0), (Pt b53 0), (Pt b62 0), (Bo (β1 && β2)), (.tuple #[(.agg #[(Fl r26), (Fl r28), (Fl r30)]), (.agg #[(Fl r32), (Fl r34), (Fl r36)]), (.agg #[(Fl r38), (Fl r40), (Fl r42)])]), (.tuple #[(.agg #[(Fl r26), (Fl r28), (Fl r30)]), (.agg #[(Fl r32), (Fl r34), (Fl r36)]), (.agg #[(Fl r38), (Fl r40), (Fl r42)])]), (.agg #[(Fl r26), (Fl r28), (Fl r30)]), (.agg #[(Fl r32), (Fl r34), (Fl r36)]), (.agg #[(Fl r38), (Fl r40), (Fl r42)]), v85, v86, v87, v88, v89, v90, v91, v92, v93, v94, v95, v96, (Bo (β1 && β2)), v104, v105, Ud, Ud, Ud, Ud, Ud, Ud, Ud, Ud, Ud, Ud, Ud, Ud, Ud, Ud, Ud, Ud, Ud, Ud, Ud]) rfl (fun _ => rfl) (fun u hu hF => ?_) (fun v105 => ?_)
  · have h25_ : v104 = (Bo (β1 && β2)) := hF.1
    clear hF
    refine doesG_un rfl ?_
    obtain rfl := h25_
    refine (does_move (u := (Bo (β1 && β2))) (ev rfl)).mono ?_; rintro _ _ ⟨rfl, rfl⟩
    exact ⟨rfl, Ext.refl _⟩
  refine RW_d (fun v106 => [(.agg #[(Fl r1), (Fl r3), (Fl r5), (Fl r7), (Fl r9), (Fl r11), (Fl r13), (Iv A_c.width), (Iv A_c.height)]), (Pt b16 0), (Bo false), (Pt b45 0), (Pt b53 0), (Pt b62 0), (Bo (β1 && β2)), (.tuple #[(.agg #[(Fl r26), (Fl r28), (Fl r30)]), (.agg #[(Fl r32), (Fl r34), (Fl r36)]), (.agg #[(Fl r38), (Fl r40), (Fl r42)])]), (.tuple #[(.agg #[(Fl r26), (Fl r28), (Fl r30)]), (.agg #[(Fl r32), (Fl r34), (Fl r36)]), (.agg #[(Fl r38), (Fl r40), (Fl r42)])]), (.agg #[(Fl r26), (Fl r28), (Fl r30)]), (.agg #[(Fl r32), (Fl r34), (Fl r36)]), (.agg #[(Fl r38), (Fl r40), (Fl r42)]), v85, v86, v87, v88, v89, v90, v91, v92, v93, v94, v95, v96, (Bo (β1 && β2)), v104, v105, v106, Ud, Ud, Ud, Ud, Ud, Ud, Ud, Ud, Ud, Ud, Ud, Ud, Ud, Ud, Ud, Ud, Ud, Ud]) rfl (fun _ => rfl) (fun u hu hF => ?_) (fun v106 => ?_)
  · have h26_ : v105 = (Bo (β1 && β2)) := hF.1
    clear hF
    obtain rfl := h26_
    refine doesG_g (b := (β1 && β2)) rfl (yld rfl rfl) (fun hg1 => ?_) (fun hc => ⟨fun hg1 => absurd hg1 hc, Ext.refl _⟩)
    refine (does_fieldAddr (ev rfl) fa48_0).mono ?_; rintro _ _ ⟨rfl, rfl⟩
    exact ⟨fun _ => rfl, Ext.refl _⟩
  refine RW_d (fun v107 => [(.agg #[(Fl r1), (Fl r3), (Fl r5), (Fl r7), (Fl r9), (Fl r11), (Fl r13), (Iv A_c.width), (Iv A_c.height)]), (Pt b16 0), (Bo false), (Pt b45 0), (Pt b53 0), (Pt b62 0), (Bo (β1 && β2)), (.tuple #[(.agg #[(Fl r26), (Fl r28), (Fl r30)]), (.agg #[(Fl r32), (Fl r34), (Fl r36)]), (.agg #[(Fl r38), (Fl r40), (Fl r42)])]), (.tuple #[(.agg #[(Fl r26), (Fl r28), (Fl r30)]), (.agg #[(Fl r32), (Fl r34), (Fl r36)]), (.agg #[(Fl r38), (Fl r40), (Fl r42)])]), (.agg #[(Fl r26), (Fl r28), (Fl r30)]), (.agg #[(Fl r32), (Fl r34), (Fl r36)]), (.agg #[(Fl r38), (Fl r40), (Fl r42)]), v85, v86, v87, v88, v89, v90, v91, v92, v93, v94, v95, v96, (Bo (β1 && β2)), v104, v105, v106, v107, Ud, Ud, Ud, Ud, Ud, Ud, Ud, Ud, Ud, Ud, Ud, Ud, Ud, Ud, Ud, Ud, Ud]) rfl (fun _ => rfl) (fun u hu hF => ?_) (fun v107 => ?_)
  · have h27_ : (β1 && β2) = true → v106 = (Pt b16 0) := hF.1
    have h26_ : v105 = (Bo (β1 && β2)) := hF.2.1
    clear hF
    obtain rfl := h26_
    refine doesG_g (b := (β1 && β2)) rfl (yld rfl rfl) (fun hg1 => ?_) (fun hc => ⟨fun hg1 => absurd hg1 hc, Ext.refl _⟩)
    obtain rfl := h27_ hg1
    refine (does_loadAgg (cs := [(Fl r1), (Fl r3), (Fl r5)]) (ev rfl) Try.isAgg26 Try.sizeOf26 (Cells.sub (Blk.cells (((((((((hB18.ext E24).ext E48).ext E56).ext E65).wr W72 (Nat.ne_of_lt n50)).wr W76 (Nat.ne_of_lt n58)).wr W80 (Nat.ne_of_lt n67)).ext E99).ext hu)) 0 3) rfl).mono ?_; rintro _ _ ⟨rfl, rfl⟩
    exact ⟨fun _ => rfl, Ext.refl _⟩
  refine RW_d (fun v108 => [(.agg #[(Fl r1), (Fl r3), (Fl r5), (Fl r7), (Fl r9), (Fl r11), (Fl r13), (Iv A_c.width), (Iv A_c.height)]), (Pt b16 0), (Bo false), (Pt b45 0), (Pt b53 0), (Pt b62 0), (Bo (β1 && β2)), (.tuple #[(.agg #[(Fl r26), (Fl r28), (Fl r30)]), (.agg #[(Fl r32), (Fl r34), (Fl r36)]), (.agg #[(Fl r38), (Fl r40), (Fl r42)])]), (.tuple #[(.agg #[(Fl r26), (Fl r28), (Fl r30)]), (.agg #[(Fl r32), (Fl r34), (Fl r36)]), (.agg #[(Fl r38), (Fl r40), (Fl r42)])]), (.agg #[(Fl r26), (Fl r28), (Fl r30)]), (.agg #[(Fl r32), (Fl r34), (Fl r36)]), (.agg #[(Fl r38), (Fl r40), (Fl r42)]), v85, v86, v87, v88, v89, v90, v91, v92, v93, v94, v95, v96, (Bo (β1 && β2)), v104, v105, v106, v107, v108, Ud, Ud, Ud, Ud, Ud, Ud, Ud, Ud, Ud, Ud, Ud, Ud, Ud, Ud, Ud, Ud]) rfl (fun _ => rfl) (fun u hu hF => ?_) (fun v108 => ?_)
  · have h28_ : (β1 && β2) = true → v107 = (.agg #[(Fl r1), (Fl r3), (Fl r5)]) := hF.1
    have h26_ : v105 = (Bo (β1 && β2)) := hF.2.1
    clear hF
    obtain rfl := h26_
    refine doesG_g (b := (β1 && β2)) rfl (yld rfl rfl) (fun hg1 => ?_) (fun hc => ⟨fun hg1 => absurd hg1 hc, Ext.refl _⟩)
    obtain rfl := h28_ hg1
    refine (does_call (args := #[(.agg #[(Fl r1), (Fl r3), (Fl r5)])]) cal57 (evs rfl) (c_impl_finiteVector [(Fl r1), (Fl r3), (Fl r5)] A_c.frm _ ⟨r1, r3, r5, rfl, h2, h4, h6⟩)).mono ?_; rintro v u' ⟨hx, hv⟩
    exact ⟨fun _ => hv, hx⟩
  refine RW_d (fun v109 => [(.agg #[(Fl r1), (Fl r3), (Fl r5), (Fl r7), (Fl r9), (Fl r11), (Fl r13), (Iv A_c.width), (Iv A_c.height)]), (Pt b16 0), (Bo false), (Pt b45 0), (Pt b53 0), (Pt b62 0), (Bo (β1 && β2)), (.tuple #[(.agg #[(Fl r26), (Fl r28), (Fl r30)]), (.agg #[(Fl r32), (Fl r34), (Fl r36)]), (.agg #[(Fl r38), (Fl r40), (Fl r42)])]), (.tuple #[(.agg #[(Fl r26), (Fl r28), (Fl r30)]), (.agg #[(Fl r32), (Fl r34), (Fl r36)]), (.agg #[(Fl r38), (Fl r40), (Fl r42)])]), (.agg #[(Fl r26), (Fl r28), (Fl r30)]), (.agg #[(Fl r32), (Fl r34), (Fl r36)]), (.agg #[(Fl r38), (Fl r40), (Fl r42)]), v85, v86, v87, v88, v89, v90, v91, v92, v93, v94, v95, v96, (Bo (β1 && β2)), v104, v105, v106, v107, v108, v109, Ud, Ud, Ud, Ud, Ud, Ud, Ud, Ud, Ud, Ud, Ud, Ud, Ud, Ud, Ud]) rfl (fun _ => rfl) (fun u hu hF => ?_) (fun v109 => ?_)
  · have h26_ : v105 = (Bo (β1 && β2)) := hF.1
    have h29_ : (β1 && β2) = true → v108 = (Bo (finV A_c.frm)) := hF.2.1
    clear hF
    refine doesG_un rfl ?_
    skip
    obtain rfl := h26_
    refine (does_pick (b := (β1 && β2)) (ev rfl) (ev rfl) (ev rfl)).mono ?_; rintro _ _ ⟨rfl, rfl⟩; refine ⟨?_, Ext.refl _⟩; rw [hβ3]; skip
    cases hbb : (β1 && β2) <;> simp [hbb] at h29_ ⊢
    all_goals (first | rfl | (subst h29_; rfl) | simp_all)
  refine RW_d (fun v110 => [(.agg #[(Fl r1), (Fl r3), (Fl r5), (Fl r7), (Fl r9), (Fl r11), (Fl r13), (Iv A_c.width), (Iv A_c.height)]), (Pt b16 0), (Bo false), (Pt b45 0), (Pt b53 0), (Pt b62 0), (Bo (β1 && β2)), (.tuple #[(.agg #[(Fl r26), (Fl r28), (Fl r30)]), (.agg #[(Fl r32), (Fl r34), (Fl r36)]), (.agg #[(Fl r38), (Fl r40), (Fl r42)])]), (.tuple #[(.agg #[(Fl r26), (Fl r28), (Fl r30)]), (.agg #[(Fl r32), (Fl r34), (Fl r36)]), (.agg #[(Fl r38), (Fl r40), (Fl r42)])]), (.agg #[(Fl r26), (Fl r28), (Fl r30)]), (.agg #[(Fl r32), (Fl r34), (Fl r36)]), (.agg #[(Fl r38), (Fl r40), (Fl r42)]), v85, v86, v87, v88, v89, v90, v91, v92, v93, v94, v95, v96, (Bo (β1 && β2)), v104, v105, v106, v107, v108, v109, v110, Ud, Ud, Ud, Ud, Ud, Ud, Ud, Ud, Ud, Ud, Ud, Ud, Ud, Ud]) rfl (fun _ => rfl) (fun u hu hF => ?_) (fun v110 => ?_)
  · have h30_ : v109 = (Bo β3) := hF.1
    clear hF
    refine doesG_un rfl ?_
    obtain rfl := h30_
    refine (does_move (u := (Bo β3)) (ev rfl)).mono ?_; rintro _ _ ⟨rfl, rfl⟩
    exact ⟨rfl, Ext.refl _⟩
  refine RW_d (fun v111 => [(.agg #[(Fl r1), (Fl r3), (Fl r5), (Fl r7), (Fl r9), (Fl r11), (Fl r13), (Iv A_c.width), (Iv A_c.height)]), (Pt b16 0), (Bo false), (Pt b45 0), (Pt b53 0), (Pt b62 0), (Bo (β1 && β2)), (.tuple #[(.agg #[(Fl r26), (Fl r28), (Fl r30)]), (.agg #[(Fl r32), (Fl r34), (Fl r36)]), (.agg #[(Fl r38), (Fl r40), (Fl r42)])]), (.tuple #[(.agg #[(Fl r26), (Fl r28), (Fl r30)]), (.agg #[(Fl r32), (Fl r34), (Fl r36)]), (.agg #[(Fl r38), (Fl r40), (Fl r42)])]), (.agg #[(Fl r26), (Fl r28), (Fl r30)]), (.agg #[(Fl r32), (Fl r34), (Fl r36)]), (.agg #[(Fl r38), (Fl r40), (Fl r42)]), v85, v86, v87, v88, v89, v90, v91, v92, v93, v94, v95, v96, (Bo (β1 && β2)), v104, v105, v106, v107, v108, v109, v110, v111, Ud, Ud, Ud, Ud, Ud, Ud, Ud, Ud, Ud, Ud, Ud, Ud, Ud]) rfl (fun _ => rfl) (fun u hu hF => ?_) (fun v111 => ?_)
  · have h31_ : v110 = (Bo β3) := hF.1
    clear hF
    obtain rfl := h31_
    refine doesG_g (b := β3) rfl (yld rfl rfl) (fun hg1 => ?_) (fun hc => ⟨fun hg1 => absurd hg1 hc, Ext.refl _⟩)
    refine (does_fieldAddr (ev rfl) fa48_1).mono ?_; rintro _ _ ⟨rfl, rfl⟩
    exact ⟨fun _ => rfl, Ext.refl _⟩
  refine RW_d (fun v112 => [(.agg #[(Fl r1), (Fl r3), (Fl r5), (Fl r7), (Fl r9), (Fl r11), (Fl r13), (Iv A_c.width), (Iv A_c.height)]), (Pt b16 0), (Bo false), (Pt b45 0), (Pt b53 0), (Pt b62 0), (Bo (β1 && β2)), (.tuple #[(.agg #[(Fl r26), (Fl r28), (Fl r30)]), (.agg #[(Fl r32), (Fl r34), (Fl r36)]), (.agg #[(Fl r38), (Fl r40), (Fl r42)])]), (.tuple #[(.agg #[(Fl r26), (Fl r28), (Fl r30)]), (.agg #[(Fl r32), (Fl r34), (Fl r36)]), (.agg #[(Fl r38), (Fl r40), (Fl r42)])]), (.agg #[(Fl r26), (Fl r28), (Fl r30)]), (.agg #[(Fl r32), (Fl r34), (Fl r36)]), (.agg #[(Fl r38), (Fl r40), (Fl r42)]), v85, v86, v87, v88, v89, v90, v91, v92, v93, v94, v95, v96, (Bo (β1 && β2)), v104, v105, v106, v107, v108, v109, v110, v111, v112, Ud, Ud, Ud, Ud, Ud, Ud, Ud, Ud, Ud, Ud, Ud, Ud]) rfl (fun _ => rfl) (fun u hu hF => ?_) (fun v112 => ?_)
  · have h32_ : β3 = true → v111 = (Pt b16 3) := hF.1
    have h31_ : v110 = (Bo β3) := hF.2.1
    clear hF
    obtain rfl := h31_
    refine doesG_g (b := β3) rfl (yld rfl rfl) (fun hg1 => ?_) (fun hc => ⟨fun hg1 => absurd hg1 hc, Ext.refl _⟩)
    obtain rfl := h32_ hg1
    refine (does_loadAgg (cs := [(Fl r7), (Fl r9), (Fl r11)]) (ev rfl) Try.isAgg26 Try.sizeOf26 (Cells.sub (Blk.cells (((((((((hB18.ext E24).ext E48).ext E56).ext E65).wr W72 (Nat.ne_of_lt n50)).wr W76 (Nat.ne_of_lt n58)).wr W80 (Nat.ne_of_lt n67)).ext E99).ext hu)) 3 3) rfl).mono ?_; rintro _ _ ⟨rfl, rfl⟩
    exact ⟨fun _ => rfl, Ext.refl _⟩
  refine RW_d (fun v113 => [(.agg #[(Fl r1), (Fl r3), (Fl r5), (Fl r7), (Fl r9), (Fl r11), (Fl r13), (Iv A_c.width), (Iv A_c.height)]), (Pt b16 0), (Bo false), (Pt b45 0), (Pt b53 0), (Pt b62 0), (Bo (β1 && β2)), (.tuple #[(.agg #[(Fl r26), (Fl r28), (Fl r30)]), (.agg #[(Fl r32), (Fl r34), (Fl r36)]), (.agg #[(Fl r38), (Fl r40), (Fl r42)])]), (.tuple #[(.agg #[(Fl r26), (Fl r28), (Fl r30)]), (.agg #[(Fl r32), (Fl r34), (Fl r36)]), (.agg #[(Fl r38), (Fl r40), (Fl r42)])]), (.agg #[(Fl r26), (Fl r28), (Fl r30)]), (.agg #[(Fl r32), (Fl r34), (Fl r36)]), (.agg #[(Fl r38), (Fl r40), (Fl r42)]), v85, v86, v87, v88, v89, v90, v91, v92, v93, v94, v95, v96, (Bo (β1 && β2)), v104, v105, v106, v107, v108, v109, v110, v111, v112, v113, Ud, Ud, Ud, Ud, Ud, Ud, Ud, Ud, Ud, Ud, Ud]) rfl (fun _ => rfl) (fun u hu hF => ?_) (fun v113 => ?_)
  · have h33_ : β3 = true → v112 = (.agg #[(Fl r7), (Fl r9), (Fl r11)]) := hF.1
    have h31_ : v110 = (Bo β3) := hF.2.1
    clear hF
    obtain rfl := h31_
    refine doesG_g (b := β3) rfl (yld rfl rfl) (fun hg1 => ?_) (fun hc => ⟨fun hg1 => absurd hg1 hc, Ext.refl _⟩)
    obtain rfl := h33_ hg1
    refine (does_call (args := #[(.agg #[(Fl r7), (Fl r9), (Fl r11)])]) cal57 (evs rfl) (c_impl_finiteVector [(Fl r7), (Fl r9), (Fl r11)] A_c.to _ ⟨r7, r9, r11, rfl, h8, h10, h12⟩)).mono ?_; rintro v u' ⟨hx, hv⟩
    exact ⟨fun _ => hv, hx⟩
  refine RW_d (fun v114 => [(.agg #[(Fl r1), (Fl r3), (Fl r5), (Fl r7), (Fl r9), (Fl r11), (Fl r13), (Iv A_c.width), (Iv A_c.height)]), (Pt b16 0), (Bo false), (Pt b45 0), (Pt b53 0), (Pt b62 0), (Bo (β1 && β2)), (.tuple #[(.agg #[(Fl r26), (Fl r28), (Fl r30)]), (.agg #[(Fl r32), (Fl r34), (Fl r36)]), (.agg #[(Fl r38), (Fl r40), (Fl r42)])]), (.tuple #[(.agg #[(Fl r26), (Fl r28), (Fl r30)]), (.agg #[(Fl r32), (Fl r34), (Fl r36)]), (.agg #[(Fl r38), (Fl r40), (Fl r42)])]), (.agg #[(Fl r26), (Fl r28), (Fl r30)]), (.agg #[(Fl r32), (Fl r34), (Fl r36)]), (.agg #[(Fl r38), (Fl r40), (Fl r42)]), v85, v86, v87, v88, v89, v90, v91, v92, v93, v94, v95, v96, (Bo (β1 && β2)), v104, v105, v106, v107, v108, v109, v110, v111, v112, v113, v114, Ud, Ud, Ud, Ud, Ud, Ud, Ud, Ud, Ud, Ud]) rfl (fun _ => rfl) (fun u hu hF => ?_) (fun v114 => ?_)
  · have h31_ : v110 = (Bo β3) := hF.1
    have h34_ : β3 = true → v113 = (Bo (finV A_c.to)) := hF.2.1
    clear hF
    refine doesG_un rfl ?_
    skip
    obtain rfl := h31_
    refine (does_pick (b := β3) (ev rfl) (ev rfl) (ev rfl)).mono ?_; rintro _ _ ⟨rfl, rfl⟩; refine ⟨?_, Ext.refl _⟩; skip
    cases hbb : β3 <;> simp [hbb] at h34_ ⊢
    all_goals (first | rfl | (subst h34_; rfl) | simp_all)
  refine RW_d (fun v115 => [(.agg #[(Fl r1), (Fl r3), (Fl r5), (Fl r7), (Fl r9), (Fl r11), (Fl r13), (Iv A_c.width), (Iv A_c.height)]), (Pt b16 0), (Bo false), (Pt b45 0), (Pt b53 0), (Pt b62 0), (Bo (β1 && β2)), (.tuple #[(.agg #[(Fl r26), (Fl r28), (Fl r30)]), (.agg #[(Fl r32), (Fl r34), (Fl r36)]), (.agg #[(Fl r38), (Fl r40), (Fl r42)])]), (.tuple #[(.agg #[(Fl r26), (Fl r28), (Fl r30)]), (.agg #[(Fl r32), (Fl r34), (Fl r36)]), (.agg #[(Fl r38), (Fl r40), (Fl r42)])]), (.agg #[(Fl r26), (Fl r28), (Fl r30)]), (.agg #[(Fl r32), (Fl r34), (Fl r36)]), (.agg #[(Fl r38), (Fl r40), (Fl r42)]), v85, v86, v87, v88, v89, v90, v91, v92, v93, v94, v95, v96, (Bo (β1 && β2)), v104, v105, v106, v107, v108, v109, v110, v111, v112, v113, v114, v115, Ud, Ud, Ud, Ud, Ud, Ud, Ud, Ud, Ud]) rfl (fun _ => rfl) (fun u hu hF => ?_) (fun v115 => ?_)
  · have h35_ : v114 = (Bo (β3 && (finV A_c.to))) := hF.1
    clear hF
    refine doesG_un rfl ?_
    obtain rfl := h35_
    refine (does_move (u := (Bo (β3 && (finV A_c.to)))) (ev rfl)).mono ?_; rintro _ _ ⟨rfl, rfl⟩
    exact ⟨rfl, Ext.refl _⟩
  refine RW_d (fun v116 => [(.agg #[(Fl r1), (Fl r3), (Fl r5), (Fl r7), (Fl r9), (Fl r11), (Fl r13), (Iv A_c.width), (Iv A_c.height)]), (Pt b16 0), (Bo false), (Pt b45 0), (Pt b53 0), (Pt b62 0), (Bo (β1 && β2)), (.tuple #[(.agg #[(Fl r26), (Fl r28), (Fl r30)]), (.agg #[(Fl r32), (Fl r34), (Fl r36)]), (.agg #[(Fl r38), (Fl r40), (Fl r42)])]), (.tuple #[(.agg #[(Fl r26), (Fl r28), (Fl r30)]), (.agg #[(Fl r32), (Fl r34), (Fl r36)]), (.agg #[(Fl r38), (Fl r40), (Fl r42)])]), (.agg #[(Fl r26), (Fl r28), (Fl r30)]), (.agg #[(Fl r32), (Fl r34), (Fl r36)]), (.agg #[(Fl r38), (Fl r40), (Fl r42)]), v85, v86, v87, v88, v89, v90, v91, v92, v93, v94, v95, v96, (Bo (β1 && β2)), v104, v105, v106, v107, v108, v109, v110, v111, v112, v113, v114, v115, v116, Ud, Ud, Ud, Ud, Ud, Ud, Ud, Ud]) rfl (fun _ => rfl) (fun u hu hF => ?_) (fun v116 => ?_)
  · have h36_ : v115 = (Bo (β3 && (finV A_c.to))) := hF.1
    clear hF
    obtain rfl := h36_
    refine doesG_g (b := (β3 && (finV A_c.to))) rfl (yld rfl rfl) (fun hg1 => ?_) (fun hc => ⟨fun hg1 => absurd hg1 hc, Ext.refl _⟩)
    refine (does_loadAgg (cs := [(Fl r26), (Fl r28), (Fl r30)]) (ev rfl) Try.isAgg26 Try.sizeOf26 (Blk.cells ((((hB73.wr W76 (Nat.ne_of_lt n59)).wr W80 (Nat.ne_of_lt n68)).ext E99).ext hu)) rfl).mono ?_; rintro _ _ ⟨rfl, rfl⟩
    exact ⟨fun _ => rfl, Ext.refl _⟩
  refine RW_d (fun v117 => [(.agg #[(Fl r1), (Fl r3), (Fl r5), (Fl r7), (Fl r9), (Fl r11), (Fl r13), (Iv A_c.width), (Iv A_c.height)]), (Pt b16 0), (Bo false), (Pt b45 0), (Pt b53 0), (Pt b62 0), (Bo (β1 && β2)), (.tuple #[(.agg #[(Fl r26), (Fl r28), (Fl r30)]), (.agg #[(Fl r32), (Fl r34), (Fl r36)]), (.agg #[(Fl r38), (Fl r40), (Fl r42)])]), (.tuple #[(.agg #[(Fl r26), (Fl r28), (Fl r30)]), (.agg #[(Fl r32), (Fl r34), (Fl r36)]), (.agg #[(Fl r38), (Fl r40), (Fl r42)])]), (.agg #[(Fl r26), (Fl r28), (Fl r30)]), (.agg #[(Fl r32), (Fl r34), (Fl r36)]), (.agg #[(Fl r38), (Fl r40), (Fl r42)]), v85, v86, v87, v88, v89, v90, v91, v92, v93, v94, v95, v96, (Bo (β1 && β2)), v104, v105, v106, v107, v108, v109, v110, v111, v112, v113, v114, v115, v116, v117, Ud, Ud, Ud, Ud, Ud, Ud, Ud]) rfl (fun _ => rfl) (fun u hu hF => ?_) (fun v117 => ?_)
  · have h37_ : (β3 && (finV A_c.to)) = true → v116 = (.agg #[(Fl r26), (Fl r28), (Fl r30)]) := hF.1
    have h36_ : v115 = (Bo (β3 && (finV A_c.to))) := hF.2.1
    clear hF
    obtain rfl := h36_
    refine doesG_g (b := (β3 && (finV A_c.to))) rfl (yld rfl rfl) (fun hg1 => ?_) (fun hc => ⟨fun hg1 => absurd hg1 hc, Ext.refl _⟩)
    obtain rfl := h37_ hg1
    refine (does_call (args := #[(.agg #[(Fl r26), (Fl r28), (Fl r30)])]) cal67 (evs rfl) (c_impl_isZero [(Fl r26), (Fl r28), (Fl r30)] (rgtC A_c) _ ⟨r26, r28, r30, rfl, h27, h29, h31⟩)).mono ?_; rintro v u' ⟨hx, hv⟩
    exact ⟨fun _ => hv, hx⟩
  refine RW_d (fun v118 => [(.agg #[(Fl r1), (Fl r3), (Fl r5), (Fl r7), (Fl r9), (Fl r11), (Fl r13), (Iv A_c.width), (Iv A_c.height)]), (Pt b16 0), (Bo false), (Pt b45 0), (Pt b53 0), (Pt b62 0), (Bo (β1 && β2)), (.tuple #[(.agg #[(Fl r26), (Fl r28), (Fl r30)]), (.agg #[(Fl r32), (Fl r34), (Fl r36)]), (.agg #[(Fl r38), (Fl r40), (Fl r42)])]), (.tuple #[(.agg #[(Fl r26), (Fl r28), (Fl r30)]), (.agg #[(Fl r32), (Fl r34), (Fl r36)]), (.agg #[(Fl r38), (Fl r40), (Fl r42)])]), (.agg #[(Fl r26), (Fl r28), (Fl r30)]), (.agg #[(Fl r32), (Fl r34), (Fl r36)]), (.agg #[(Fl r38), (Fl r40), (Fl r42)]), v85, v86, v87, v88, v89, v90, v91, v92, v93, v94, v95, v96, (Bo (β1 && β2)), v104, v105, v106, v107, v108, v109, v110, v111, v112, v113, v114, v115, v116, v117, v118, Ud, Ud, Ud, Ud, Ud, Ud]) rfl (fun _ => rfl) (fun u hu hF => ?_) (fun v118 => ?_)
  · have h38_ : (β3 && (finV A_c.to)) = true → v117 = (Bo (zeroV (rgtC A_c))) := hF.1
    have h36_ : v115 = (Bo (β3 && (finV A_c.to))) := hF.2.1
    clear hF
    obtain rfl := h36_
    refine doesG_g (b := (β3 && (finV A_c.to))) rfl (yld rfl rfl) (fun hg1 => ?_) (fun hc => ⟨fun hg1 => absurd hg1 hc, Ext.refl _⟩)
    obtain rfl := h38_ hg1
    refine (does_not (ev rfl)).mono ?_; rintro _ _ ⟨rfl, rfl⟩
    exact ⟨fun _ => rfl, Ext.refl _⟩
  refine RW_d (fun v119 => [(.agg #[(Fl r1), (Fl r3), (Fl r5), (Fl r7), (Fl r9), (Fl r11), (Fl r13), (Iv A_c.width), (Iv A_c.height)]), (Pt b16 0), (Bo false), (Pt b45 0), (Pt b53 0), (Pt b62 0), (Bo (β1 && β2)), (.tuple #[(.agg #[(Fl r26), (Fl r28), (Fl r30)]), (.agg #[(Fl r32), (Fl r34), (Fl r36)]), (.agg #[(Fl r38), (Fl r40), (Fl r42)])]), (.tuple #[(.agg #[(Fl r26), (Fl r28), (Fl r30)]), (.agg #[(Fl r32), (Fl r34), (Fl r36)]), (.agg #[(Fl r38), (Fl r40), (Fl r42)])]), (.agg #[(Fl r26), (Fl r28), (Fl r30)]), (.agg #[(Fl r32), (Fl r34), (Fl r36)]), (.agg #[(Fl r38), (Fl r40), (Fl r42)]), v85, v86, v87, v88, v89, v90, v91, v92, v93, v94, v95, v96, (Bo (β1 && β2)), v104, v105, v106, v107, v108, v109, v110, v111, v112, v113, v114, v115, v116, v117, v118, v119, Ud, Ud, Ud, Ud, Ud]) rfl (fun _ => rfl) (fun u hu hF => ?_) (fun v119 => ?_)
  · have h36_ : v115 = (Bo (β3 && (finV A_c.to))) := hF.1
    have h39_ : (β3 && (finV A_c.to)) = true → v118 = (Bo (!(zeroV (rgtC A_c)))) := hF.2.1
    clear hF
    refine doesG_un rfl ?_
    skip
    obtain rfl := h36_
    refine (does_pick (b := (β3 && (finV A_c.to))) (ev rfl) (ev rfl) (ev rfl)).mono ?_; rintro _ _ ⟨rfl, rfl⟩; refine ⟨?_, Ext.refl _⟩; rw [hβ4]; skip
    cases hbb : (β3 && (finV A_c.to)) <;> simp [hbb] at h39_ ⊢
    all_goals (first | rfl | (subst h39_; rfl) | simp_all)
  refine RW_d (fun v120 => [(.agg #[(Fl r1), (Fl r3), (Fl r5), (Fl r7), (Fl r9), (Fl r11), (Fl r13), (Iv A_c.width), (Iv A_c.height)]), (Pt b16 0), (Bo false), (Pt b45 0), (Pt b53 0), (Pt b62 0), (Bo (β1 && β2)), (.tuple #[(.agg #[(Fl r26), (Fl r28), (Fl r30)]), (.agg #[(Fl r32), (Fl r34), (Fl r36)]), (.agg #[(Fl r38), (Fl r40), (Fl r42)])]), (.tuple #[(.agg #[(Fl r26), (Fl r28), (Fl r30)]), (.agg #[(Fl r32), (Fl r34), (Fl r36)]), (.agg #[(Fl r38), (Fl r40), (Fl r42)])]), (.agg #[(Fl r26), (Fl r28), (Fl r30)]), (.agg #[(Fl r32), (Fl r34), (Fl r36)]), (.agg #[(Fl r38), (Fl r40), (Fl r42)]), v85, v86, v87, v88, v89, v90, v91, v92, v93, v94, v95, v96, (Bo (β1 && β2)), v104, v105, v106, v107, v108, v109, v110, v111, v112, v113, v114, v115, v116, v117, v118, v119, v120, Ud, Ud, Ud, Ud]) rfl (fun _ => rfl) (fun u hu hF => ?_) (fun v120 => ?_)
  · have h40_ : v119 = (Bo β4) := hF.1
    clear hF
    refine doesG_un rfl ?_
    obtain rfl := h40_
    refine (does_move (u := (Bo β4)) (ev rfl)).mono ?_; rintro _ _ ⟨rfl, rfl⟩
    exact ⟨rfl, Ext.refl _⟩
  refine RW_d (fun v121 => [(.agg #[(Fl r1), (Fl r3), (Fl r5), (Fl r7), (Fl r9), (Fl r11), (Fl r13), (Iv A_c.width), (Iv A_c.height)]), (Pt b16 0), (Bo false), (Pt b45 0), (Pt b53 0), (Pt b62 0), (Bo (β1 && β2)), (.tuple #[(.agg #[(Fl r26), (Fl r28), (Fl r30)]), (.agg #[(Fl r32), (Fl r34), (Fl r36)]), (.agg #[(Fl r38), (Fl r40), (Fl r42)])]), (.tuple #[(.agg #[(Fl r26), (Fl r28), (Fl r30)]), (.agg #[(Fl r32), (Fl r34), (Fl r36)]), (.agg #[(Fl r38), (Fl r40), (Fl r42)])]), (.agg #[(Fl r26), (Fl r28), (Fl r30)]), (.agg #[(Fl r32), (Fl r34), (Fl r36)]), (.agg #[(Fl r38), (Fl r40), (Fl r42)]), v85, v86, v87, v88, v89, v90, v91, v92, v93, v94, v95, v96, (Bo (β1 && β2)), v104, v105, v106, v107, v108, v109, v110, v111, v112, v113, v114, v115, v116, v117, v118, v119, v120, v121, Ud, Ud, Ud]) rfl (fun _ => rfl) (fun u hu hF => ?_) (fun v121 => ?_)
  · have h41_ : v120 = (Bo β4) := hF.1
    clear hF
    obtain rfl := h41_
    refine doesG_g (b := β4) rfl (yld rfl rfl) (fun hg1 => ?_) (fun hc => ⟨fun hg1 => absurd hg1 hc, Ext.refl _⟩)
    refine (does_loadAgg (cs := [(Fl r38), (Fl r40), (Fl r42)]) (ev rfl) Try.isAgg26 Try.sizeOf26 (Blk.cells ((hB81.ext E99).ext hu)) rfl).mono ?_; rintro _ _ ⟨rfl, rfl⟩
    exact ⟨fun _ => rfl, Ext.refl _⟩
  refine RW_d (fun v122 => [(.agg #[(Fl r1), (Fl r3), (Fl r5), (Fl r7), (Fl r9), (Fl r11), (Fl r13), (Iv A_c.width), (Iv A_c.height)]), (Pt b16 0), (Bo false), (Pt b45 0), (Pt b53 0), (Pt b62 0), (Bo (β1 && β2)), (.tuple #[(.agg #[(Fl r26), (Fl r28), (Fl r30)]), (.agg #[(Fl r32), (Fl r34), (Fl r36)]), (.agg #[(Fl r38), (Fl r40), (Fl r42)])]), (.tuple #[(.agg #[(Fl r26), (Fl r28), (Fl r30)]), (.agg #[(Fl r32), (Fl r34), (Fl r36)]), (.agg #[(Fl r38), (Fl r40), (Fl r42)])]), (.agg #[(Fl r26), (Fl r28), (Fl r30)]), (.agg #[(Fl r32), (Fl r34), (Fl r36)]), (.agg #[(Fl r38), (Fl r40), (Fl r42)]), v85, v86, v87, v88, v89, v90, v91, v92, v93, v94, v95, v96, (Bo (β1 && β2)), v104, v105, v106, v107, v108, v109, v110, v111, v112, v113, v114, v115, v116, v117, v118, v119, v120, v121, v122, Ud, Ud]) rfl (fun _ => rfl) (fun u hu hF => ?_) (fun v122 => ?_)
  · have h42_ : β4 = true → v121 = (.agg #[(Fl r38), (Fl r40), (Fl r42)]) := hF.1
    have h41_ : v120 = (Bo β4) := hF.2.1
    clear hF
    obtain rfl := h41_
    refine doesG_g (b := β4) rfl (yld rfl rfl) (fun hg1 => ?_) (fun hc => ⟨fun hg1 => absurd hg1 hc, Ext.refl _⟩)
    obtain rfl := h42_ hg1
    refine (does_call (args := #[(.agg #[(Fl r38), (Fl r40), (Fl r42)])]) cal67 (evs rfl) (c_impl_isZero [(Fl r38), (Fl r40), (Fl r42)] (fwdC A_c) _ ⟨r38, r40, r42, rfl, h39, h41, h43⟩)).mono ?_; rintro v u' ⟨hx, hv⟩
    exact ⟨fun _ => hv, hx⟩
  refine RW_d (fun v123 => [(.agg #[(Fl r1), (Fl r3), (Fl r5), (Fl r7), (Fl r9), (Fl r11), (Fl r13), (Iv A_c.width), (Iv A_c.height)]), (Pt b16 0), (Bo false), (Pt b45 0), (Pt b53 0), (Pt b62 0), (Bo (β1 && β2)), (.tuple #[(.agg #[(Fl r26), (Fl r28), (Fl r30)]), (.agg #[(Fl r32), (Fl r34), (Fl r36)]), (.agg #[(Fl r38), (Fl r40), (Fl r42)])]), (.tuple #[(.agg #[(Fl r26), (Fl r28), (Fl r30)]), (.agg #[(Fl r32), (Fl r34), (Fl r36)]), (.agg #[(Fl r38), (Fl r40), (Fl r42)])]), (.agg #[(Fl r26), (Fl r28), (Fl r30)]), (.agg #[(Fl r32), (Fl r34), (Fl r36)]), (.agg #[(Fl r38), (Fl r40), (Fl r42)]), v85, v86, v87, v88, v89, v90, v91, v92, v93, v94, v95, v96, (Bo (β1 && β2)), v104, v105, v106, v107, v108, v109, v110, v111, v112, v113, v114, v115, v116, v117, v118, v119, v120, v121, v122, v123, Ud]) rfl (fun _ => rfl) (fun u hu hF => ?_) (fun v123 => ?_)
  · have h43_ : β4 = true → v122 = (Bo (zeroV (fwdC A_c))) := hF.1
    have h41_ : v120 = (Bo β4) := hF.2.1
    clear hF
    obtain rfl := h41_
    refine doesG_g (b := β4) rfl (yld rfl rfl) (fun hg1 => ?_) (fun hc => ⟨fun hg1 => absurd hg1 hc, Ext.refl _⟩)
    obtain rfl := h43_ hg1
    refine (does_not (ev rfl)).mono ?_; rintro _ _ ⟨rfl, rfl⟩
    exact ⟨fun _ => rfl, Ext.refl _⟩
  refine RW_d (fun v124 => [(.agg #[(Fl r1), (Fl r3), (Fl r5), (Fl r7), (Fl r9), (Fl r11), (Fl r13), (Iv A_c.width), (Iv A_c.height)]), (Pt b16 0), (Bo false), (Pt b45 0), (Pt b53 0), (Pt b62 0), (Bo (β1 && β2)), (.tuple #[(.agg #[(Fl r26), (Fl r28), (Fl r30)]), (.agg #[(Fl r32), (Fl r34), (Fl r36)]), (.agg #[(Fl r38), (Fl r40), (Fl r42)])]), (.tuple #[(.agg #[(Fl r26), (Fl r28), (Fl r30)]), (.agg #[(Fl r32), (Fl r34), (Fl r36)]), (.agg #[(Fl r38), (Fl r40), (Fl r42)])]), (.agg #[(Fl r26), (Fl r28), (Fl r30)]), (.agg #[(Fl r32), (Fl r34), (Fl r36)]), (.agg #[(Fl r38), (Fl r40), (Fl r42)]), v85, v86, v87, v88, v89, v90, v91, v92, v93, v94, v95, v96, (Bo (β1 && β2)), v104, v105, v106, v107, v108, v109, v110, v111, v112, v113, v114, v115, v116, v117, v118, v119, v120, v121, v122, v123, v124]) rfl (fun _ => rfl) (fun u hu hF => ?_) (fun v124 => ?_)
  · have h41_ : v120 = (Bo β4) := hF.1
    have h44_ : β4 = true → v123 = (Bo (!(zeroV (fwdC A_c)))) := hF.2.1
    clear hF
    refine doesG_un rfl ?_
    skip
    obtain rfl := h41_
    refine (does_pick (b := β4) (ev rfl) (ev rfl) (ev rfl)).mono ?_; rintro _ _ ⟨rfl, rfl⟩; refine ⟨?_, Ext.refl _⟩; rw [hβ5]; skip
    cases hbb : β4 <;> simp [hbb] at h44_ ⊢
    all_goals (first | rfl | (subst h44_; rfl) | simp_all)
  refine RW_fin ?_; intro w125 E126 hP127
  obtain ⟨⟨⟨⟨⟨⟨⟨⟨⟨⟨⟨⟨⟨⟨⟨⟨⟨⟨⟨⟨⟨-, -⟩, -⟩, -⟩, -⟩, -⟩, -⟩, -⟩, -⟩, -⟩, -⟩, -⟩, -⟩, -⟩, -⟩, -⟩, -⟩, -⟩, -⟩, -⟩, -⟩, q128⟩ := hP127
  have X129 := Ext.gr X102 E126
  have q128 : v124 = (Bo β5) := q128
  obtain rfl := q128
  show wpList _ _ _ _ (fr [(.agg #[(Fl r1), (Fl r3), (Fl r5), (Fl r7), (Fl r9), (Fl r11), (Fl r13), (Iv A_c.width), (Iv A_c.height)]), (Pt b16 0), (Bo false), (Pt b45 0), (Pt b53 0), (Pt b62 0), (Bo (β1 && β2)), (.tuple #[(.agg #[(Fl r26), (Fl r28), (Fl r30)]), (.agg #[(Fl r32), (Fl r34), (Fl r36)]), (.agg #[(Fl r38), (Fl r40), (Fl r42)])]), (.tuple #[(.agg #[(Fl r26), (Fl r28), (Fl r30)]), (.agg #[(Fl r32), (Fl r34), (Fl r36)]), (.agg #[(Fl r38), (Fl r40), (Fl r42)])]), (.agg #[(Fl r26), (Fl r28), (Fl r30)]), (.agg #[(Fl r32), (Fl r34), (Fl r36)]), (.agg #[(Fl r38), (Fl r40), (Fl r42)]), v85, v86, v87, v88, v89, v90, v91, v92, v93, v94, v95, v96, (Bo (β1 && β2)), v104, v105, v106, v107, v108, v109, v110, v111, v112, v113, v114, v115, v116, v117, v118, v119, v120, v121, v122, v123, (Bo β5)]) _
  refine q_is (l' := [(.agg #[(Fl r1), (Fl r3), (Fl r5), (Fl r7), (Fl r9), (Fl r11), (Fl r13), (Iv A_c.width), (Iv A_c.height)]), (Pt b16 0), (Bo β5), (Pt b45 0), (Pt b53 0), (Pt b62 0), (Bo (β1 && β2)), (.tuple #[(.agg #[(Fl r26), (Fl r28), (Fl r30)]), (.agg #[(Fl r32), (Fl r34), (Fl r36)]), (.agg #[(Fl r38), (Fl r40), (Fl r42)])]), (.tuple #[(.agg #[(Fl r26), (Fl r28), (Fl r30)]), (.agg #[(Fl r32), (Fl r34), (Fl r36)]), (.agg #[(Fl r38), (Fl r40), (Fl r42)])]), (.agg #[(Fl r26), (Fl r28), (Fl r30)]), (.agg #[(Fl r32), (Fl r34), (Fl r36)]), (.agg #[(Fl r38), (Fl r40), (Fl r42)]), v85, v86, v87, v88, v89, v90, v91, v92, v93, v94, v95, v96, (Bo (β1 && β2)), v104, v105, v106, v107, v108, v109, v110, v111, v112, v113, v114, v115, v116, v117, v118, v119, v120, v121, v122, v123, (Bo β5)]) rfl rfl (does_assign (u := (Bo β5)) (ev rfl)) rfl ?_
  refine wpList_nil (hK103 _ _ ?_)
  refine wp_ret ?_
  refine ret_val (v := (Bo β5)) (res_T rfl (slot rfl)) X129 ?_
  have x130 : (isCam A_c) = β5 := by unfold isCam; rw [some_fwd, some_rgt]; simp only [h2, h4, h6, h8, h10, h12, h14, h27, h29, h31, h33, h35, h37, h39, h41, h43, hβ1, hβ2, hβ3, hβ4, hβ5]; first | rfl | ac_rfl
  exact (by first | rfl | rw [x130])

/- laws.FnExactValidCamera -/
theorem c_laws_FnExactValidCamera (c : List Value) (A_c : CamT) (w : World) (hv_c : RCamT w A_c c) : Gives Try.prog 5 #[(.agg c.toArray)] w (fun v w' => v = (Bo true)) := by
  obtain ⟨r1, r3, r5, r7, r9, r11, r13, rfl, h2, h4, h6, h8, h10, h12, h14⟩ := hv_c
  refine enter [(.agg #[(Fl r1), (Fl r3), (Fl r5), (Fl r7), (Fl r9), (Fl r11), (Fl r13), (Iv A_c.width), (Iv A_c.height)]), Ud, Ud, Ud, Ud, Ud, Ud, Ud, Ud, Ud, Ud, Ud, Ud, Ud] Try.func5 rfl Try.ntmps5 rfl ?_
  refine wp_seq_k fun K15 hK15 => ?_
  refine wp_region_lit ?_
  refine seqd rfl rfl (does_box (u := (.agg #[(Fl r1), (Fl r3), (Fl r5), (Fl r7), (Fl r9), (Fl r11), (Fl r13), (Iv A_c.width), (Iv A_c.height)])) (ev rfl)) ?_; rintro _ w20 ⟨b16, rfl, hb17, hB18, E19⟩
  have g21 : w.heap.size ≤ b16 := Nat.le_trans (Below.size (Ext.refl w)) hb17
  change Blk _ _ [(Fl r1), (Fl r3), (Fl r5), (Fl r7), (Fl r9), (Fl r11), (Fl r13), (Iv A_c.width), (Iv A_c.height)] at hB18
  have X22 := Ext.gr (Ext.refl w) E19
  show wpList _ _ _ _ (fr [(.agg #[(Fl r1), (Fl r3), (Fl r5), (Fl r7), (Fl r9), (Fl r11), (Fl r13), (Iv A_c.width), (Iv A_c.height)]), (Pt b16 0), Ud, Ud, Ud, Ud, Ud, Ud, Ud, Ud, Ud, Ud, Ud, Ud]) _
  refine q_is (l' := [(.agg #[(Fl r1), (Fl r3), (Fl r5), (Fl r7), (Fl r9), (Fl r11), (Fl r13), (Iv A_c.width), (Iv A_c.height)]), (Pt b16 0), (Bo false), Ud, Ud, Ud, Ud, Ud, Ud, Ud, Ud, Ud, Ud, Ud]) rfl rfl (does_assign (u := (Bo false)) (ev rfl)) rfl ?_
  refine wpList_nil (hK15 _ _ ?_)
  refine wp_seq_k fun K23 hK23 => ?_
  refine wp_region_lit ?_
  refine q_is (l' := [(.agg #[(Fl r1), (Fl r3), (Fl r5), (Fl r7), (Fl r9), (Fl r11), (Fl r13), (Iv A_c.width), (Iv A_c.height)]), (Pt b16 0), (Bo false), Ud, Ud, (.agg #[(Fl r1), (Fl r3), (Fl r5), (Fl r7), (Fl r9), (Fl r11), (Fl r13), (Iv A_c.width), (Iv A_c.height)]), Ud, Ud, Ud, Ud, Ud, Ud, Ud, Ud]) rfl rfl (does_loadAgg (cs := [(Fl r1), (Fl r3), (Fl r5), (Fl r7), (Fl r9), (Fl r11), (Fl r13), (Iv A_c.width), (Iv A_c.height)]) (ev rfl) Try.isAgg45 Try.sizeOf45 (Blk.cells hB18) rfl) rfl ?_
  refine seqd rfl rfl (does_call (args := #[(.agg #[(Fl r1), (Fl r3), (Fl r5), (Fl r7), (Fl r9), (Fl r11), (Fl r13), (Iv A_c.width), (Iv A_c.height)])]) cal24 (evs rfl) (c_laws_toCamera [(Fl r1), (Fl r3), (Fl r5), (Fl r7), (Fl r9), (Fl r11), (Fl r13), (Iv A_c.width), (Iv A_c.height)] A_c _ ⟨r1, r3, r5, r7, r9, r11, r13, rfl, h2, h4, h6, h8, h10, h12, h14⟩)) ?_; rintro _ w25 ⟨E24, ⟨_, rfl, ⟨r26, r28, r30, r32, r34, r36, r38, rfl, h27, h29, h31, h33, h35, h37, h39⟩⟩⟩
  have X40 := Ext.gr X22 E24
  show wpList _ _ _ _ (fr [(.agg #[(Fl r1), (Fl r3), (Fl r5), (Fl r7), (Fl r9), (Fl r11), (Fl r13), (Iv A_c.width), (Iv A_c.height)]), (Pt b16 0), (Bo false), Ud, Ud, (.agg #[(Fl r1), (Fl r3), (Fl r5), (Fl r7), (Fl r9), (Fl r11), (Fl r13), (Iv A_c.width), (Iv A_c.height)]), (.agg #[(Fl r26), (Fl r28), (Fl r30), (Fl r32), (Fl r34), (Fl r36), (Fl r38), (Iv A_c.width), (Iv A_c.height)]), Ud, Ud, Ud, Ud, Ud, Ud, Ud]) _
  refine seqd rfl rfl (does_call (args := #[(.agg #[(Fl r26), (Fl r28), (Fl r30), (Fl r32), (Fl r34), (Fl r36), (Fl r38), (Iv A_c.width), (Iv A_c.height)])]) cal23 (evs rfl) (c_spec_ValidCamera [(Fl r26), (Fl r28), (Fl r30), (Fl r32), (Fl r34), (Fl r36), (Fl r38), (Iv A_c.width), (Iv A_c.height)] A_c _ ⟨r26, r28, r30, r32, r34, r36, r38, rfl, h27, h29, h31, h33, h35, h37, h39⟩)) ?_; rintro _ w42 ⟨E41, rfl⟩
  have X43 := Ext.gr X40 E41
  show wpList _ _ _ _ (fr [(.agg #[(Fl r1), (Fl r3), (Fl r5), (Fl r7), (Fl r9), (Fl r11), (Fl r13), (Iv A_c.width), (Iv A_c.height)]), (Pt b16 0), (Bo false), Ud, Ud, (.agg #[(Fl r1), (Fl r3), (Fl r5), (Fl r7), (Fl r9), (Fl r11), (Fl r13), (Iv A_c.width), (Iv A_c.height)]), (.agg #[(Fl r26), (Fl r28), (Fl r30), (Fl r32), (Fl r34), (Fl r36), (Fl r38), (Iv A_c.width), (Iv A_c.height)]), (Bo (isCam A_c)), Ud, Ud, Ud, Ud, Ud, Ud]) _
  refine q_is (l' := [(.agg #[(Fl r1), (Fl r3), (Fl r5), (Fl r7), (Fl r9), (Fl r11), (Fl r13), (Iv A_c.width), (Iv A_c.height)]), (Pt b16 0), (Bo false), (Bo (isCam A_c)), Ud, (.agg #[(Fl r1), (Fl r3), (Fl r5), (Fl r7), (Fl r9), (Fl r11), (Fl r13), (Iv A_c.width), (Iv A_c.height)]), (.agg #[(Fl r26), (Fl r28), (Fl r30), (Fl r32), (Fl r34), (Fl r36), (Fl r38), (Iv A_c.width), (Iv A_c.height)]), (Bo (isCam A_c)), Ud, Ud, Ud, Ud, Ud, Ud]) rfl rfl (does_assign (u := (Bo (isCam A_c))) (ev rfl)) rfl ?_
  refine wpList_nil (hK23 _ _ ?_)
  refine wp_seq_k fun K44 hK44 => ?_
  refine wp_region_lit ?_
  refine q_is (l' := [(.agg #[(Fl r1), (Fl r3), (Fl r5), (Fl r7), (Fl r9), (Fl r11), (Fl r13), (Iv A_c.width), (Iv A_c.height)]), (Pt b16 0), (Bo false), (Bo (isCam A_c)), Ud, (.agg #[(Fl r1), (Fl r3), (Fl r5), (Fl r7), (Fl r9), (Fl r11), (Fl r13), (Iv A_c.width), (Iv A_c.height)]), (.agg #[(Fl r26), (Fl r28), (Fl r30), (Fl r32), (Fl r34), (Fl r36), (Fl r38), (Iv A_c.width), (Iv A_c.height)]), (Bo (isCam A_c)), (.agg #[(Fl r1), (Fl r3), (Fl r5), (Fl r7), (Fl r9), (Fl r11), (Fl r13), (Iv A_c.width), (Iv A_c.height)]), Ud, Ud, Ud, Ud, Ud]) rfl rfl (does_loadAgg (cs := [(Fl r1), (Fl r3), (Fl r5), (Fl r7), (Fl r9), (Fl r11), (Fl r13), (Iv A_c.width), (Iv A_c.height)]) (ev rfl) Try.isAgg45 Try.sizeOf45 (Blk.cells ((hB18.ext E24).ext E41)) rfl) rfl ?_
  refine seqd rfl rfl (does_call (args := #[(.agg #[(Fl r1), (Fl r3), (Fl r5), (Fl r7), (Fl r9), (Fl r11), (Fl r13), (Iv A_c.width), (Iv A_c.height)])]) cal24 (evs rfl) (c_laws_toCamera [(Fl r1), (Fl r3), (Fl r5), (Fl r7), (Fl r9), (Fl r11), (Fl r13), (Iv A_c.width), (Iv A_c.height)] A_c _ ⟨r1, r3, r5, r7, r9, r11, r13, rfl, h2, h4, h6, h8, h10, h12, h14⟩)) ?_; rintro _ w46 ⟨E45, ⟨_, rfl, ⟨r47, r49, r51, r53, r55, r57, r59, rfl, h48, h50, h52, h54, h56, h58, h60⟩⟩⟩
  have X61 := Ext.gr X43 E45
  show wpList _ _ _ _ (fr [(.agg #[(Fl r1), (Fl r3), (Fl r5), (Fl r7), (Fl r9), (Fl r11), (Fl r13), (Iv A_c.width), (Iv A_c.height)]), (Pt b16 0), (Bo false), (Bo (isCam A_c)), Ud, (.agg #[(Fl r1), (Fl r3), (Fl r5), (Fl r7), (Fl r9), (Fl r11), (Fl r13), (Iv A_c.width), (Iv A_c.height)]), (.agg #[(Fl r26), (Fl r28), (Fl r30), (Fl r32), (Fl r34), (Fl r36), (Fl r38), (Iv A_c.width), (Iv A_c.height)]), (Bo (isCam A_c)), (.agg #[(Fl r1), (Fl r3), (Fl r5), (Fl r7), (Fl r9), (Fl r11), (Fl r13), (Iv A_c.width), (Iv A_c.height)]), (.agg #[(Fl r47), (Fl r49), (Fl r51), (Fl r53), (Fl r55), (Fl r57), (Fl r59), (Iv A_c.width), (Iv A_c.height)]), Ud, Ud, Ud, Ud]) _
  refine seqd rfl rfl (does_call (args := #[(.agg #[(Fl r47), (Fl r49), (Fl r51), (Fl r53), (Fl r55), (Fl r57), (Fl r59), (Iv A_c.width), (Iv A_c.height)])]) cal25 (evs rfl) (c_impl_ValidCamera [(Fl r47), (Fl r49), (Fl r51), (Fl r53), (Fl r55), (Fl r57), (Fl r59), (Iv A_c.width), (Iv A_c.height)] A_c _ ⟨r47, r49, r51, r53, r55, r57, r59, rfl, h48, h50, h52, h54, h56, h58, h60⟩)) ?_; rintro _ w63 ⟨E62, rfl⟩
  have X64 := Ext.gr X61 E62
  show wpList _ _ _ _ (fr [(.agg #[(Fl r1), (Fl r3), (Fl r5), (Fl r7), (Fl r9), (Fl r11), (Fl r13), (Iv A_c.width), (Iv A_c.height)]), (Pt b16 0), (Bo false), (Bo (isCam A_c)), Ud, (.agg #[(Fl r1), (Fl r3), (Fl r5), (Fl r7), (Fl r9), (Fl r11), (Fl r13), (Iv A_c.width), (Iv A_c.height)]), (.agg #[(Fl r26), (Fl r28), (Fl r30), (Fl r32), (Fl r34), (Fl r36), (Fl r38), (Iv A_c.width), (Iv A_c.height)]), (Bo (isCam A_c)), (.agg #[(Fl r1), (Fl r3), (Fl r5), (Fl r7), (Fl r9), (Fl r11), (Fl r13), (Iv A_c.width), (Iv A_c.height)]), (.agg #[(Fl r47), (Fl r49), (Fl r51), (Fl r53), (Fl r55), (Fl r57), (Fl r59), (Iv A_c.width), (Iv A_c.height)]), (Bo (isCam A_c)), Ud, Ud, Ud]) _
  refine q_is (l' := [(.agg #[(Fl r1), (Fl r3), (Fl r5), (Fl r7), (Fl r9), (Fl r11), (Fl r13), (Iv A_c.width), (Iv A_c.height)]), (Pt b16 0), (Bo false), (Bo (isCam A_c)), (Bo (isCam A_c)), (.agg #[(Fl r1), (Fl r3), (Fl r5), (Fl r7), (Fl r9), (Fl r11), (Fl r13), (Iv A_c.width), (Iv A_c.height)]), (.agg #[(Fl r26), (Fl r28), (Fl r30), (Fl r32), (Fl r34), (Fl r36), (Fl r38), (Iv A_c.width), (Iv A_c.height)]), (Bo (isCam A_c)), (.agg #[(Fl r1), (Fl r3), (Fl r5), (Fl r7), (Fl r9), (Fl r11), (Fl r13), (Iv A_c.width), (Iv A_c.height)]), (.agg #[(Fl r47), (Fl r49), (Fl r51), (Fl r53), (Fl r55), (Fl r57), (Fl r59), (Iv A_c.width), (Iv A_c.height)]), (Bo (isCam A_c)), Ud, Ud, Ud]) rfl rfl (does_assign (u := (Bo (isCam A_c))) (ev rfl)) rfl ?_
  refine wpList_nil (hK44 _ _ ?_)
  refine wp_seq_k fun K65 hK65 => ?_
  refine wp_seq_k fun K66 hK66 => ?_
  refine wp_region_lit ?_
  refine q_is (l' := [(.agg #[(Fl r1), (Fl r3), (Fl r5), (Fl r7), (Fl r9), (Fl r11), (Fl r13), (Iv A_c.width), (Iv A_c.height)]), (Pt b16 0), (Bo false), (Bo (isCam A_c)), (Bo (isCam A_c)), (.agg #[(Fl r1), (Fl r3), (Fl r5), (Fl r7), (Fl r9), (Fl r11), (Fl r13), (Iv A_c.width), (Iv A_c.height)]), (.agg #[(Fl r26), (Fl r28), (Fl r30), (Fl r32), (Fl r34), (Fl r36), (Fl r38), (Iv A_c.width), (Iv A_c.height)]), (Bo (isCam A_c)), (.agg #[(Fl r1), (Fl r3), (Fl r5), (Fl r7), (Fl r9), (Fl r11), (Fl r13), (Iv A_c.width), (Iv A_c.height)]), (.agg #[(Fl r47), (Fl r49), (Fl r51), (Fl r53), (Fl r55), (Fl r57), (Fl r59), (Iv A_c.width), (Iv A_c.height)]), (Bo (isCam A_c)), (Bo (isCam A_c)), Ud, Ud]) rfl rfl (does_move (u := (Bo (isCam A_c))) (ev rfl)) rfl ?_
  refine q_is (l' := [(.agg #[(Fl r1), (Fl r3), (Fl r5), (Fl r7), (Fl r9), (Fl r11), (Fl r13), (Iv A_c.width), (Iv A_c.height)]), (Pt b16 0), (Bo false), (Bo (isCam A_c)), (Bo (isCam A_c)), (.agg #[(Fl r1), (Fl r3), (Fl r5), (Fl r7), (Fl r9), (Fl r11), (Fl r13), (Iv A_c.width), (Iv A_c.height)]), (.agg #[(Fl r26), (Fl r28), (Fl r30), (Fl r32), (Fl r34), (Fl r36), (Fl r38), (Iv A_c.width), (Iv A_c.height)]), (Bo (isCam A_c)), (.agg #[(Fl r1), (Fl r3), (Fl r5), (Fl r7), (Fl r9), (Fl r11), (Fl r13), (Iv A_c.width), (Iv A_c.height)]), (.agg #[(Fl r47), (Fl r49), (Fl r51), (Fl r53), (Fl r55), (Fl r57), (Fl r59), (Iv A_c.width), (Iv A_c.height)]), (Bo (isCam A_c)), (Bo (isCam A_c)), (Bo (isCam A_c)), Ud]) rfl rfl (does_move (u := (Bo (isCam A_c))) (ev rfl)) rfl ?_
  refine q_is (l' := [(.agg #[(Fl r1), (Fl r3), (Fl r5), (Fl r7), (Fl r9), (Fl r11), (Fl r13), (Iv A_c.width), (Iv A_c.height)]), (Pt b16 0), (Bo false), (Bo (isCam A_c)), (Bo (isCam A_c)), (.agg #[(Fl r1), (Fl r3), (Fl r5), (Fl r7), (Fl r9), (Fl r11), (Fl r13), (Iv A_c.width), (Iv A_c.height)]), (.agg #[(Fl r26), (Fl r28), (Fl r30), (Fl r32), (Fl r34), (Fl r36), (Fl r38), (Iv A_c.width), (Iv A_c.height)]), (Bo (isCam A_c)), (.agg #[(Fl r1), (Fl r3), (Fl r5), (Fl r7), (Fl r9), (Fl r11), (Fl r13), (Iv A_c.width), (Iv A_c.height)]), (.agg #[(Fl r47), (Fl r49), (Fl r51), (Fl r53), (Fl r55), (Fl r57), (Fl r59), (Iv A_c.width), (Iv A_c.height)]), (Bo (isCam A_c)), (Bo (isCam A_c)), (Bo (isCam A_c)), (Bo ((isCam A_c) != (isCam A_c)))]) rfl rfl (does_bne (p := (isCam A_c)) (q := (isCam A_c)) Try.underlying4 (ev rfl) (ev rfl)) rfl ?_
  refine wpList_nil (hK66 _ _ ?_)
  refine wp_cond_split (t := (isCam A_c) != (isCam A_c)) (ev rfl) (fun c67 => ?_) (fun c67 => ?_)
  · have c67' := c67
    refine wp_seq_k fun K68 hK68 => ?_
    refine wp_region_lit ?_
    refine q_is (l' := [(.agg #[(Fl r1), (Fl r3), (Fl r5), (Fl r7), (Fl r9), (Fl r11), (Fl r13), (Iv A_c.width), (Iv A_c.height)]), (Pt b16 0), (Bo false), (Bo (isCam A_c)), (Bo (isCam A_c)), (.agg #[(Fl r1), (Fl r3), (Fl r5), (Fl r7), (Fl r9), (Fl r11), (Fl r13), (Iv A_c.width), (Iv A_c.height)]), (.agg #[(Fl r26), (Fl r28), (Fl r30), (Fl r32), (Fl r34), (Fl r36), (Fl r38), (Iv A_c.width), (Iv A_c.height)]), (Bo (isCam A_c)), (.agg #[(Fl r1), (Fl r3), (Fl r5), (Fl r7), (Fl r9), (Fl r11), (Fl r13), (Iv A_c.width), (Iv A_c.height)]), (.agg #[(Fl r47), (Fl r49), (Fl r51), (Fl r53), (Fl r55), (Fl r57), (Fl r59), (Iv A_c.width), (Iv A_c.height)]), (Bo (isCam A_c)), (Bo (isCam A_c)), (Bo (isCam A_c)), (Bo ((isCam A_c) != (isCam A_c)))]) rfl rfl (does_assign (u := (Bo false)) (ev rfl)) rfl ?_
    refine wpList_nil (hK68 _ _ ?_)
    refine wp_ret ?_
    dsimp only [Exit.then, Exit.inBlock]
    refine ret_val (v := (Bo false)) (res_T rfl (slot rfl)) X64 ?_
    try simp only [h2, h4, h6, h8, h10, h12, h14, h27, h29, h31, h33, h35, h37, h39, h48, h50, h52, h54, h56, h58, h60] at c67
    have x69 : true = false := by first | with_reducible rfl | (simp only [bne_self_eq_false, h2, h4, h6, h8, h10, h12, h14, h27, h29, h31, h33, h35, h37, h39, h48, h50, h52, h54, h56, h58, h60, c67]; done) | (simp [bne_self_eq_false, h2, h4, h6, h8, h10, h12, h14, h27, h29, h31, h33, h35, h37, h39, h48, h50, h52, h54, h56, h58, h60, c67]; done) | (revert c67; simp +contextual [bne_self_eq_false, h2, h4, h6, h8, h10, h12, h14, h27, h29, h31, h33, h35, h37, h39, h48, h50, h52, h54, h56, h58, h60]; done) | (rcases c67' with hh | hh <;> simp only [hh, bne_self_eq_false, h2, h4, h6, h8, h10, h12, h14, h27, h29, h31, h33, h35, h37, h39, h48, h50, h52, h54, h56, h58, h60, c67]; done) | (rcases c67' with hh | hh <;> simp_all [bne_self_eq_false]; done) | (rcases c67' with hh | hh | hh <;> simp_all [bne_self_eq_false]; done) | (rcases c67' with hh | hh | hh | hh <;> simp_all [bne_self_eq_false]; done) | (simp_all [bne_self_eq_false]; done) | rfl
    exact (by first | rfl | rw [x69])
  have c67' := c67
  refine wp_skip (hK65 _ _ ?_)
  refine wp_seq_k fun K70 hK70 => ?_
  refine wp_region_lit ?_
  refine q_is (l' := [(.agg #[(Fl r1), (Fl r3), (Fl r5), (Fl r7), (Fl r9), (Fl r11), (Fl r13), (Iv A_c.width), (Iv A_c.height)]), (Pt b16 0), (Bo true), (Bo (isCam A_c)), (Bo (isCam A_c)), (.agg #[(Fl r1), (Fl r3), (Fl r5), (Fl r7), (Fl r9), (Fl r11), (Fl r13), (Iv A_c.width), (Iv A_c.height)]), (.agg #[(Fl r26), (Fl r28), (Fl r30), (Fl r32), (Fl r34), (Fl r36), (Fl r38), (Iv A_c.width), (Iv A_c.height)]), (Bo (isCam A_c)), (.agg #[(Fl r1), (Fl r3), (Fl r5), (Fl r7), (Fl r9), (Fl r11), (Fl r13), (Iv A_c.width), (Iv A_c.height)]), (.agg #[(Fl r47), (Fl r49), (Fl r51), (Fl r53), (Fl r55), (Fl r57), (Fl r59), (Iv A_c.width), (Iv A_c.height)]), (Bo (isCam A_c)), (Bo (isCam A_c)), (Bo (isCam A_c)), (Bo ((isCam A_c) != (isCam A_c)))]) rfl rfl (does_assign (u := (Bo true)) (ev rfl)) rfl ?_
  refine wpList_nil (hK70 _ _ ?_)
  refine wp_ret ?_
  refine ret_val (v := (Bo true)) (res_T rfl (slot rfl)) X64 ?_
  try simp only [h2, h4, h6, h8, h10, h12, h14, h27, h29, h31, h33, h35, h37, h39, h48, h50, h52, h54, h56, h58, h60] at c67
  exact rfl

end Go.Proofs.Ytbbidfadenmmjaa
