/- contracts of functions, each walked once -/
import Derived.Test.YthffielpjjggeaaTy
import Derived.Test.YthffielpjjggeaaUni
import Derived.Test.YthffielpjjggeaaOwn
import Derived.Test.YthffielpjjggeaaSpl
namespace Go.Proofs.Ythffielpjjggeaa
open Go Go.RowKit
set_option maxRecDepth 100000
set_option maxHeartbeats 3200000
set_option linter.unusedVariables false
set_option linter.unusedSimpArgs false

/- spec.l01Finite -/
theorem c_spec_l01Finite (x : Nat) (w : World) : Gives Try.prog 20 #[(Fl x)] w (fun v w' => v = (Bo (finF (cf .f32 x)))) := by
  refine enter [(Fl x), Ud, Ud, Ud, Ud, Ud, Ud] Try.func20 rfl Try.ntmps20 rfl ?_
  refine wp_seq_k fun K1 hK1 => ?_
  refine wp_region_lit ?_
  refine q_is (l' := [(Fl x), Ud, (Bo false), Ud, Ud, Ud, Ud]) rfl rfl (does_assign (u := (Bo false)) (ev rfl)) rfl ?_
  refine wpList_nil (hK1 _ _ ?_)
  refine wp_seq_k fun K2 hK2 => ?_
  refine wp_region_lit ?_
  refine q_is (l' := [(Fl x), Ud, (Bo false), (Fl x), Ud, Ud, Ud]) rfl rfl (does_move (u := (Fl x)) (ev rfl)) rfl ?_
  refine q_is (l' := [(Fl x), Ud, (Bo false), (Fl x), (Fl x), Ud, Ud]) rfl rfl (does_move (u := (Fl x)) (ev rfl)) rfl ?_
  refine seqd rfl rfl (does_float (.inr (.inl rfl)) (ev rfl) (ev rfl)) ?_; rintro _ w6 ⟨r3, rfl, h4, E5⟩
  have X7 := Ext.gr (Ext.refl w) E5
  show wpList _ _ _ _ (fr [(Fl x), Ud, (Bo false), (Fl x), (Fl x), (Fl r3), Ud]) _
  refine q_is (l' := [(Fl x), Ud, (Bo false), (Fl x), (Fl x), (Fl r3), (Bo (fcmp .eql (ford .f32 (cf .f32 r3) (cf .f32 0))))]) rfl rfl (does_fcmp (.inl rfl) (ev rfl) (ev rfl)) rfl ?_
  refine q_is (l' := [(Fl x), Ud, (Bo (fcmp .eql (ford .f32 (cf .f32 r3) (cf .f32 0)))), (Fl x), (Fl x), (Fl r3), (Bo (fcmp .eql (ford .f32 (cf .f32 r3) (cf .f32 0))))]) rfl rfl (does_assign (u := (Bo (fcmp .eql (ford .f32 (cf .f32 r3) (cf .f32 0))))) (ev rfl)) rfl ?_
  refine wpList_nil (hK2 _ _ ?_)
  refine wp_ret ?_
  refine ret_val (v := (Bo (fcmp .eql (ford .f32 (cf .f32 r3) (cf .f32 0))))) (res_T rfl (slot rfl)) X7 ?_
  have x8 : (finF (cf .f32 x)) = (fcmp .eql (ford .f32 (cf .f32 r3) (cf .f32 0))) := by first | with_reducible rfl | (simp only [finF, h4]; done) | (simp [finF, h4]; done) | rfl
  exact (by first | with_reducible rfl | rw [x8] | rfl)

/- spec.l01VFinite -/
theorem c_spec_l01VFinite (v : List Value) (A_v : V3) (w : World) (hv_v : RV3 w A_v v) : Gives Try.prog 15 #[(.agg v.toArray)] w (fun v w' => v = (Bo (finV A_v))) := by
  obtain ⟨r1, r3, r5, rfl, h2, h4, h6⟩ := hv_v
  refine enter [(.agg #[(Fl r1), (Fl r3), (Fl r5)]), Ud, Ud, Ud, Ud, Ud, Ud, Ud, Ud, Ud, Ud, Ud, Ud, Ud, Ud, Ud] Try.func15 rfl Try.ntmps15 rfl ?_
  refine wp_seq_k fun K7 hK7 => ?_
  refine wp_region_lit ?_
  refine seqd rfl rfl (does_box (u := (.agg #[(Fl r1), (Fl r3), (Fl r5)])) (ev rfl)) ?_; rintro _ w12 ⟨b8, rfl, hb9, hB10, E11⟩
  have g13 : w.heap.size ≤ b8 := Nat.le_trans (Below.size (Ext.refl w)) hb9
  change Blk _ _ [(Fl r1), (Fl r3), (Fl r5)] at hB10
  have X14 := Ext.gr (Ext.refl w) E11
  show wpList _ _ _ _ (fr [(.agg #[(Fl r1), (Fl r3), (Fl r5)]), (Pt b8 0), Ud, Ud, Ud, Ud, Ud, Ud, Ud, Ud, Ud, Ud, Ud, Ud, Ud, Ud]) _
  refine q_is (l' := [(.agg #[(Fl r1), (Fl r3), (Fl r5)]), (Pt b8 0), (Bo false), Ud, Ud, Ud, Ud, Ud, Ud, Ud, Ud, Ud, Ud, Ud, Ud, Ud]) rfl rfl (does_assign (u := (Bo false)) (ev rfl)) rfl ?_
  refine wpList_nil (hK7 _ _ ?_)
  refine wp_seq_k fun K15 hK15 => ?_
  obtain ⟨β1, hβ1⟩ : ∃ b : Bool, b = ((finF (cf .f32 r1)) && (finF (cf .f32 r3))) := ⟨_, rfl⟩
  obtain ⟨β2, hβ2⟩ : ∃ b : Bool, b = (β1 && (finF (cf .f32 r5))) := ⟨_, rfl⟩
  refine region_text (
    [Fact.pure [] (fun v => v = (Pt b8 0)),
    Fact.pure [3] (fun v => v = (Fl r1)),
    Fact.pure [4] (fun v => v = (Bo (finF (cf .f32 r1)))),
    Fact.pure [5] (fun v => v = (Bo (finF (cf .f32 r1)))),
    Fact.pure [6] (fun v => (finF (cf .f32 r1)) = true → v = (Pt b8 1)),
    Fact.pure [7, 6] (fun v => (finF (cf .f32 r1)) = true → v = (Fl r3)),
    Fact.pure [8, 6] (fun v => (finF (cf .f32 r1)) = true → v = (Bo (finF (cf .f32 r3)))),
    Fact.pure [6, 9] (fun v => v = (Bo β1)),
    Fact.pure [10] (fun v => v = (Bo β1)),
    Fact.pure [11] (fun v => β1 = true → v = (Pt b8 2)),
    Fact.pure [12, 11] (fun v => β1 = true → v = (Fl r5)),
    Fact.pure [13, 11] (fun v => β1 = true → v = (Bo (finF (cf .f32 r5)))),
    Fact.pure [11, 14] (fun v => v = (Bo β2))]) (by simp [Fact.pure, Fact.mem]) ?_
  refine RW_d (fun v16 => [(.agg #[(Fl r1), (Fl r3), (Fl r5)]), (Pt b8 0), (Bo false), v16, Ud, Ud, Ud, Ud, Ud, Ud, Ud, Ud, Ud, Ud, Ud, Ud]) rfl (fun _ => rfl) (fun u hu hF => ?_) (fun v16 => ?_)
  · clear hF
    refine doesG_un rfl ?_
    refine (does_fieldAddr (ev rfl) fa27_0).mono ?_; rintro _ _ ⟨rfl, rfl⟩
    exact ⟨rfl, Ext.refl _⟩
  refine RW_d (fun v17 => [(.agg #[(Fl r1), (Fl r3), (Fl r5)]), (Pt b8 0), (Bo false), v16, v17, Ud, Ud, Ud, Ud, Ud, Ud, Ud, Ud, Ud, Ud, Ud]) rfl (fun _ => rfl) (fun u hu hF => ?_) (fun v17 => ?_)
  · have h3_ : v16 = (Pt b8 0) := hF.1
    clear hF
    refine doesG_un rfl ?_
    obtain rfl := h3_
    refine (does_load (u := (Fl r1)) (ev rfl) Try.isAgg22 (Cells.at (Blk.cells (hB10.ext hu)) 0 rfl)).mono ?_; rintro _ _ ⟨rfl, rfl⟩
    exact ⟨rfl, Ext.refl _⟩
  refine RW_d (fun v18 => [(.agg #[(Fl r1), (Fl r3), (Fl r5)]), (Pt b8 0), (Bo false), v16, v17, v18, Ud, Ud, Ud, Ud, Ud, Ud, Ud, Ud, Ud, Ud]) rfl (fun _ => rfl) (fun u hu hF => ?_) (fun v18 => ?_)
  · have h4_ : v17 = (Fl r1) := hF.1
    clear hF
    refine doesG_un rfl ?_
    obtain rfl := h4_
    refine (does_call (args := #[(Fl r1)]) cal20 (evs rfl) (c_spec_l01Finite r1 _)).mono ?_; rintro v u' ⟨hx, hv⟩
    exact ⟨hv, hx⟩
  refine RW_d (fun v19 => [(.agg #[(Fl r1), (Fl r3), (Fl r5)]), (Pt b8 0), (Bo false), v16, v17, v18, v19, Ud, Ud, Ud, Ud, Ud, Ud, Ud, Ud, Ud]) rfl (fun _ => rfl) (fun u hu hF => ?_) (fun v19 => ?_)
  · have h5_ : v18 = (Bo (finF (cf .f32 r1))) := hF.1
    clear hF
    refine doesG_un rfl ?_
    obtain rfl := h5_
    refine (does_move (u := (Bo (finF (cf .f32 r1)))) (ev rfl)).mono ?_; rintro _ _ ⟨rfl, rfl⟩
    exact ⟨rfl, Ext.refl _⟩
  refine RW_d (fun v20 => [(.agg #[(Fl r1), (Fl r3), (Fl r5)]), (Pt b8 0), (Bo false), v16, v17, v18, v19, v20, Ud, Ud, Ud, Ud, Ud, Ud, Ud, Ud]) rfl (fun _ => rfl) (fun u hu hF => ?_) (fun v20 => ?_)
  · have h6_ : v19 = (Bo (finF (cf .f32 r1))) := hF.1
    clear hF
    obtain rfl := h6_
    refine doesG_g (b := (finF (cf .f32 r1))) rfl (yld rfl rfl) (fun hg1 => ?_) (fun hc => ⟨fun hg1 => absurd hg1 hc, Ext.refl _⟩)
    refine (does_fieldAddr (ev rfl) fa27_1).mono ?_; rintro _ _ ⟨rfl, rfl⟩
    exact ⟨fun _ => rfl, Ext.refl _⟩
  refine RW_d (fun v21 => [(.agg #[(Fl r1), (Fl r3), (Fl r5)]), (Pt b8 0), (Bo false), v16, v17, v18, v19, v20, v21, Ud, Ud, Ud, Ud, Ud, Ud, Ud]) rfl (fun _ => rfl) (fun u hu hF => ?_) (fun v21 => ?_)
  · have h7_ : (finF (cf .f32 r1)) = true → v20 = (Pt b8 1) := hF.1
    have h6_ : v19 = (Bo (finF (cf .f32 r1))) := hF.2.1
    clear hF
    obtain rfl := h6_
    refine doesG_g (b := (finF (cf .f32 r1))) rfl (yld rfl rfl) (fun hg1 => ?_) (fun hc => ⟨fun hg1 => absurd hg1 hc, Ext.refl _⟩)
    obtain rfl := h7_ hg1
    refine (does_load (u := (Fl r3)) (ev rfl) Try.isAgg22 (Cells.at (Blk.cells (hB10.ext hu)) 1 rfl)).mono ?_; rintro _ _ ⟨rfl, rfl⟩
    exact ⟨fun _ => rfl, Ext.refl _⟩
  refine RW_d (fun v22 => [(.agg #[(Fl r1), (Fl r3), (Fl r5)]), (Pt b8 0), (Bo false), v16, v17, v18, v19, v20, v21, v22, Ud, Ud, Ud, Ud, Ud, Ud]) rfl (fun _ => rfl) (fun u hu hF => ?_) (fun v22 => ?_)
  · have h8_ : (finF (cf .f32 r1)) = true → v21 = (Fl r3) := hF.1
    have h6_ : v19 = (Bo (finF (cf .f32 r1))) := hF.2.1
    clear hF
    obtain rfl := h6_
    refine doesG_g (b := (finF (cf .f32 r1))) rfl (yld rfl rfl) (fun hg1 => ?_) (fun hc => ⟨fun hg1 => absurd hg1 hc, Ext.refl _⟩)
    obtain rfl := h8_ hg1
    refine (does_call (args := #[(Fl r3)]) cal20 (evs rfl) (c_spec_l01Finite r3 _)).mono ?_; rintro v u' ⟨hx, hv⟩
    exact ⟨fun _ => hv, hx⟩
  refine RW_d (fun v23 => [(.agg #[(Fl r1), (Fl r3), (Fl r5)]), (Pt b8 0), (Bo false), v16, v17, v18, v19, v20, v21, v22, v23, Ud, Ud, Ud, Ud, Ud]) rfl (fun _ => rfl) (fun u hu hF => ?_) (fun v23 => ?_)
  · have h6_ : v19 = (Bo (finF (cf .f32 r1))) := hF.1
    have h9_ : (finF (cf .f32 r1)) = true → v22 = (Bo (finF (cf .f32 r3))) := hF.2.1
    clear hF
    refine doesG_un rfl ?_
    skip
    obtain rfl := h6_
    refine (does_pick (b := (finF (cf .f32 r1))) (u := v22) (v := (Bo false)) (ev rfl) (ev rfl) (ev rfl)).mono ?_; rintro _ _ ⟨rfl, rfl⟩; refine ⟨?_, Ext.refl _⟩; rw [hβ1]; skip
    cases hbb : (finF (cf .f32 r1))
    all_goals first | (show _ = _; simp only [↓reduceIte, Bool.true_and, Bool.false_and, Bool.true_or, Bool.false_or, Bool.false_eq_true]; done) | (have e_ := h9_ hbb; subst e_; show _ = _; simp only [↓reduceIte, Bool.true_and, Bool.false_and, Bool.true_or, Bool.false_or, Bool.false_eq_true]; done) | rfl | (have e_ := h9_ hbb; subst e_; rfl) | (simp [hbb] at h9_ ⊢; first | done | rfl | (subst h9_; rfl) | simp_all) | (simp [hbb] at h9_ ⊢; done)
  refine RW_d (fun v24 => [(.agg #[(Fl r1), (Fl r3), (Fl r5)]), (Pt b8 0), (Bo false), v16, v17, v18, v19, v20, v21, v22, v23, v24, Ud, Ud, Ud, Ud]) rfl (fun _ => rfl) (fun u hu hF => ?_) (fun v24 => ?_)
  · have h10_ : v23 = (Bo β1) := hF.1
    clear hF
    refine doesG_un rfl ?_
    obtain rfl := h10_
    refine (does_move (u := (Bo β1)) (ev rfl)).mono ?_; rintro _ _ ⟨rfl, rfl⟩
    exact ⟨rfl, Ext.refl _⟩
  refine RW_d (fun v25 => [(.agg #[(Fl r1), (Fl r3), (Fl r5)]), (Pt b8 0), (Bo false), v16, v17, v18, v19, v20, v21, v22, v23, v24, v25, Ud, Ud, Ud]) rfl (fun _ => rfl) (fun u hu hF => ?_) (fun v25 => ?_)
  · have h11_ : v24 = (Bo β1) := hF.1
    clear hF
    obtain rfl := h11_
    refine doesG_g (b := β1) rfl (yld rfl rfl) (fun hg1 => ?_) (fun hc => ⟨fun hg1 => absurd hg1 hc, Ext.refl _⟩)
    refine (does_fieldAddr (ev rfl) fa27_2).mono ?_; rintro _ _ ⟨rfl, rfl⟩
    exact ⟨fun _ => rfl, Ext.refl _⟩
  refine RW_d (fun v26 => [(.agg #[(Fl r1), (Fl r3), (Fl r5)]), (Pt b8 0), (Bo false), v16, v17, v18, v19, v20, v21, v22, v23, v24, v25, v26, Ud, Ud]) rfl (fun _ => rfl) (fun u hu hF => ?_) (fun v26 => ?_)
  · have h12_ : β1 = true → v25 = (Pt b8 2) := hF.1
    have h11_ : v24 = (Bo β1) := hF.2.1
    clear hF
    obtain rfl := h11_
    refine doesG_g (b := β1) rfl (yld rfl rfl) (fun hg1 => ?_) (fun hc => ⟨fun hg1 => absurd hg1 hc, Ext.refl _⟩)
    obtain rfl := h12_ hg1
    refine (does_load (u := (Fl r5)) (ev rfl) Try.isAgg22 (Cells.at (Blk.cells (hB10.ext hu)) 2 rfl)).mono ?_; rintro _ _ ⟨rfl, rfl⟩
    exact ⟨fun _ => rfl, Ext.refl _⟩
  refine RW_d (fun v27 => [(.agg #[(Fl r1), (Fl r3), (Fl r5)]), (Pt b8 0), (Bo false), v16, v17, v18, v19, v20, v21, v22, v23, v24, v25, v26, v27, Ud]) rfl (fun _ => rfl) (fun u hu hF => ?_) (fun v27 => ?_)
  · have h13_ : β1 = true → v26 = (Fl r5) := hF.1
    have h11_ : v24 = (Bo β1) := hF.2.1
    clear hF
    obtain rfl := h11_
    refine doesG_g (b := β1) rfl (yld rfl rfl) (fun hg1 => ?_) (fun hc => ⟨fun hg1 => absurd hg1 hc, Ext.refl _⟩)
    obtain rfl := h13_ hg1
    refine (does_call (args := #[(Fl r5)]) cal20 (evs rfl) (c_spec_l01Finite r5 _)).mono ?_; rintro v u' ⟨hx, hv⟩
    exact ⟨fun _ => hv, hx⟩
  refine RW_d (fun v28 => [(.agg #[(Fl r1), (Fl r3), (Fl r5)]), (Pt b8 0), (Bo false), v16, v17, v18, v19, v20, v21, v22, v23, v24, v25, v26, v27, v28]) rfl (fun _ => rfl) (fun u hu hF => ?_) (fun v28 => ?_)
  · have h11_ : v24 = (Bo β1) := hF.1
    have h14_ : β1 = true → v27 = (Bo (finF (cf .f32 r5))) := hF.2.1
    clear hF
    refine doesG_un rfl ?_
    skip
    obtain rfl := h11_
    refine (does_pick (b := β1) (u := v27) (v := (Bo false)) (ev rfl) (ev rfl) (ev rfl)).mono ?_; rintro _ _ ⟨rfl, rfl⟩; refine ⟨?_, Ext.refl _⟩; rw [hβ2]; skip
    cases hbb : β1
    all_goals first | (show _ = _; simp only [↓reduceIte, Bool.true_and, Bool.false_and, Bool.true_or, Bool.false_or, Bool.false_eq_true]; done) | (have e_ := h14_ hbb; subst e_; show _ = _; simp only [↓reduceIte, Bool.true_and, Bool.false_and, Bool.true_or, Bool.false_or, Bool.false_eq_true]; done) | rfl | (have e_ := h14_ hbb; subst e_; rfl) | (simp [hbb] at h14_ ⊢; first | done | rfl | (subst h14_; rfl) | simp_all) | (simp [hbb] at h14_ ⊢; done)
  refine RW_fin ?_; intro w29 E30 hP31
  obtain ⟨⟨⟨⟨⟨⟨⟨⟨⟨⟨⟨⟨⟨-, -⟩, -⟩, -⟩, -⟩, -⟩, -⟩, -⟩, -⟩, -⟩, -⟩, -⟩, -⟩, q32⟩ := hP31
  have X33 := Ext.gr X14 E30
  have q32 : v28 = (Bo β2) := q32
  obtain rfl := q32
  show wpList _ _ _ _ (fr [(.agg #[(Fl r1), (Fl r3), (Fl r5)]), (Pt b8 0), (Bo false), v16, v17, v18, v19, v20, v21, v22, v23, v24, v25, v26, v27, (Bo β2)]) _
  refine q_is (l' := [(.agg #[(Fl r1), (Fl r3), (Fl r5)]), (Pt b8 0), (Bo β2), v16, v17, v18, v19, v20, v21, v22, v23, v24, v25, v26, v27, (Bo β2)]) rfl rfl (does_assign (u := (Bo β2)) (ev rfl)) rfl ?_
  refine wpList_nil (hK15 _ _ ?_)
  refine wp_ret ?_
  refine ret_val (v := (Bo β2)) (res_T rfl (slot rfl)) X33 ?_
  have x34 : (finV A_v) = β2 := by first | with_reducible rfl | (simp only [finV, h2, h4, h6, hβ1, hβ2]; done) | (simp [finV, h2, h4, h6, hβ1, hβ2]; done) | rfl
  exact (by first | with_reducible rfl | rw [x34] | rfl)

/- spec.l04Is -/
theorem c_spec_l04Is (b_b : Nat) (b_o : Nat) (b : List Value) (A_b : Bx) (w : World) (hc_b : Cells w b_b b_o b) (hv_b : RBx w A_b b) : Gives Try.prog 8 #[(Pt b_b b_o)] w (fun v w' => v = (Bo (isBox A_b))) := by
  obtain ⟨r1, r3, r5, r7, r9, r11, rfl, h2, h4, h6, h8, h10, h12⟩ := hv_b
  refine enter [(Pt b_b b_o), Ud, Ud, Ud, Ud, Ud, Ud, Ud, Ud, Ud, Ud, Ud, Ud, Ud, Ud, Ud, Ud, Ud, Ud, Ud, Ud, Ud, Ud, Ud, Ud, Ud, Ud, Ud, Ud, Ud, Ud, Ud, Ud, Ud, Ud, Ud, Ud, Ud, Ud, Ud, Ud, Ud, Ud, Ud, Ud, Ud, Ud, Ud, Ud, Ud, Ud, Ud, Ud, Ud] Try.func8 rfl Try.ntmps8 rfl ?_
  refine wp_seq_k fun K13 hK13 => ?_
  refine wp_region_lit ?_
  refine q_is rfl rfl (does_assign (u := (Bo false)) (ev rfl)) (by dsimp only [List.set]; try rfl) ?_
  refine wpList_nil (hK13 _ _ ?_)
  refine wp_seq_k fun K14 hK14 => ?_
  obtain ⟨β1, hβ1⟩ : ∃ b : Bool, b = ((finV A_b.lo) && (finV A_b.hi)) := ⟨_, rfl⟩
  obtain ⟨β2, hβ2⟩ : ∃ b : Bool, b = (fcmp .leq (ford .f32 (cf .f32 r1) (cf .f32 r7))) := ⟨_, rfl⟩
  obtain ⟨β3, hβ3⟩ : ∃ b : Bool, b = (fcmp .leq (ford .f32 (cf .f32 r3) (cf .f32 r9))) := ⟨_, rfl⟩
  obtain ⟨β4, hβ4⟩ : ∃ b : Bool, b = (fcmp .leq (ford .f32 (cf .f32 r5) (cf .f32 r11))) := ⟨_, rfl⟩
  refine region_draw (
    [Fact.pure [] (fun v => v = (Pt b_b b_o)),
    Fact.pure [3] (fun v => v = (Pt b_b b_o)),
    Fact.pure [4] (fun v => v = (Pt b_b b_o)),
    Fact.pure [5] (fun v => v = (.agg #[(Fl r1), (Fl r3), (Fl r5)])),
    Fact.pure [6] (fun v => v = (Bo (finV A_b.lo))),
    Fact.pure [7] (fun v => v = (Bo (finV A_b.lo))),
    Fact.pure [8] (fun v => (finV A_b.lo) = true → v = (Pt b_b b_o)),
    Fact.pure [9, 8] (fun v => (finV A_b.lo) = true → v = (Pt b_b b_o)),
    Fact.pure [10, 8] (fun v => (finV A_b.lo) = true → v = (Pt b_b (b_o + 3))),
    Fact.pure [11, 8] (fun v => (finV A_b.lo) = true → v = (.agg #[(Fl r7), (Fl r9), (Fl r11)])),
    Fact.pure [12, 8] (fun v => (finV A_b.lo) = true → v = (Bo (finV A_b.hi))),
    Fact.pure [8, 13] (fun v => v = (Bo β1)),
    Fact.pure [14] (fun v => v = (Bo β1)),
    Fact.pure [15] (fun v => β1 = true → v = (Pt b_b b_o)),
    Fact.pure [16, 15] (fun v => β1 = true → v = (Pt b_b b_o)),
    Fact.pure [17, 15] (fun v => β1 = true → v = (Pt b_b b_o)),
    Fact.pure [18, 15] (fun v => β1 = true → v = (Pt b_b b_o)),
    Fact.pure [19, 15] (fun v => β1 = true → v = (Fl r1)),
    Fact.pure [15] (fun v => β1 = true → v = (Pt b_b b_o)),
    Fact.pure [21, 15] (fun v => β1 = true → v = (Pt b_b b_o)),
    Fact.pure [22, 15] (fun v => β1 = true → v = (Pt b_b (b_o + 3))),
    Fact.pure [23, 15] (fun v => β1 = true → v = (Pt b_b (b_o + 3))),
    Fact.pure [24, 15] (fun v => β1 = true → v = (Fl r7)),
    Fact.pure [20, 25, 15] (fun v => β1 = true → v = (Bo β2)),
    Fact.pure [15, 26] (fun v => v = (Bo (β1 && β2))),
    Fact.pure [27] (fun v => v = (Bo (β1 && β2))),
    Fact.pure [28] (fun v => (β1 && β2) = true → v = (Pt b_b b_o)),
    Fact.pure [29, 28] (fun v => (β1 && β2) = true → v = (Pt b_b b_o)),
    Fact.pure [30, 28] (fun v => (β1 && β2) = true → v = (Pt b_b b_o)),
    Fact.pure [31, 28] (fun v => (β1 && β2) = true → v = (Pt b_b (b_o + 1))),
    Fact.pure [32, 28] (fun v => (β1 && β2) = true → v = (Fl r3)),
    Fact.pure [28] (fun v => (β1 && β2) = true → v = (Pt b_b b_o)),
    Fact.pure [34, 28] (fun v => (β1 && β2) = true → v = (Pt b_b b_o)),
    Fact.pure [35, 28] (fun v => (β1 && β2) = true → v = (Pt b_b (b_o + 3))),
    Fact.pure [36, 28] (fun v => (β1 && β2) = true → v = (Pt b_b (b_o + 4))),
    Fact.pure [37, 28] (fun v => (β1 && β2) = true → v = (Fl r9)),
    Fact.pure [33, 38, 28] (fun v => (β1 && β2) = true → v = (Bo β3)),
    Fact.pure [28, 39] (fun v => v = (Bo ((β1 && β2) && β3))),
    Fact.pure [40] (fun v => v = (Bo ((β1 && β2) && β3))),
    Fact.pure [41] (fun v => ((β1 && β2) && β3) = true → v = (Pt b_b b_o)),
    Fact.pure [42, 41] (fun v => ((β1 && β2) && β3) = true → v = (Pt b_b b_o)),
    Fact.pure [43, 41] (fun v => ((β1 && β2) && β3) = true → v = (Pt b_b b_o)),
    Fact.pure [44, 41] (fun v => ((β1 && β2) && β3) = true → v = (Pt b_b (b_o + 2))),
    Fact.pure [45, 41] (fun v => ((β1 && β2) && β3) = true → v = (Fl r5)),
    Fact.pure [41] (fun v => ((β1 && β2) && β3) = true → v = (Pt b_b b_o)),
    Fact.pure [47, 41] (fun v => ((β1 && β2) && β3) = true → v = (Pt b_b b_o)),
    Fact.pure [48, 41] (fun v => ((β1 && β2) && β3) = true → v = (Pt b_b (b_o + 3))),
    Fact.pure [49, 41] (fun v => ((β1 && β2) && β3) = true → v = (Pt b_b (b_o + 5))),
    Fact.pure [50, 41] (fun v => ((β1 && β2) && β3) = true → v = (Fl r11)),
    Fact.pure [46, 51, 41] (fun v => ((β1 && β2) && β3) = true → v = (Bo β4)),
    Fact.pure [41, 52] (fun v => v = (Bo (((β1 && β2) && β3) && β4)))]) mixed (by kernel_rfl) (by intro _ _ d _ _ h; cases d <;> exact h) ?_
  obtain ⟨w15, hw17⟩ : ∃ w', w' = World.drew w := ⟨_, rfl⟩; rw [← hw17]; have E16 : Ext w w15 := by rw [hw17]; exact Ext.draw _
  clear hw17
  have X18 := Ext.gr (Ext.refl w) E16
  refine RW_d _ rfl (fun v => by dsimp only [List.set]; try rfl) (fun u hu hF => ?_) (fun v19 => ?_)
  · clear hF
    refine doesG_un rfl ?_
    refine (does_move (u := (Pt b_b b_o)) (ev rfl)).mono ?_; rintro _ _ ⟨rfl, rfl⟩
    exact ⟨rfl, Ext.refl _⟩
  refine RW_d _ rfl (fun v => by dsimp only [List.set]; try rfl) (fun u hu hF => ?_) (fun v20 => ?_)
  · have h3_ : v19 = (Pt b_b b_o) := hF.1
    clear hF
    refine doesG_un rfl ?_
    obtain rfl := h3_
    refine (does_nilCheck (ev rfl)).mono ?_; rintro _ _ ⟨rfl, rfl⟩
    exact ⟨rfl, Ext.refl _⟩
  refine RW_d _ rfl (fun v => by dsimp only [List.set]; try rfl) (fun u hu hF => ?_) (fun v21 => ?_)
  · have h4_ : v20 = (Pt b_b b_o) := hF.1
    clear hF
    refine doesG_un rfl ?_
    obtain rfl := h4_
    refine (does_fieldAddr (ev rfl) fa29_0).mono ?_; rintro _ _ ⟨rfl, rfl⟩
    exact ⟨rfl, Ext.refl _⟩
  refine RW_d _ rfl (fun v => by dsimp only [List.set]; try rfl) (fun u hu hF => ?_) (fun v22 => ?_)
  · have h5_ : v21 = (Pt b_b b_o) := hF.1
    clear hF
    refine doesG_un rfl ?_
    obtain rfl := h5_
    refine (does_loadAgg (cs := [(Fl r1), (Fl r3), (Fl r5)]) (ev rfl) Try.isAgg27 Try.sizeOf27 (Cells.sub ((hc_b.ext (Ext.gr (Ext.refl w) E16)).ext hu) 0 3) rfl).mono ?_; rintro _ _ ⟨rfl, rfl⟩
    exact ⟨rfl, Ext.refl _⟩
  refine RW_d _ rfl (fun v => by dsimp only [List.set]; try rfl) (fun u hu hF => ?_) (fun v23 => ?_)
  · have h6_ : v22 = (.agg #[(Fl r1), (Fl r3), (Fl r5)]) := hF.1
    clear hF
    refine doesG_un rfl ?_
    obtain rfl := h6_
    refine (does_call (args := #[(.agg #[(Fl r1), (Fl r3), (Fl r5)])]) cal15 (evs rfl) (c_spec_l01VFinite [(Fl r1), (Fl r3), (Fl r5)] A_b.lo _ ⟨r1, r3, r5, rfl, h2, h4, h6⟩)).mono ?_; rintro v u' ⟨hx, hv⟩
    exact ⟨hv, hx⟩
  refine RW_d _ rfl (fun v => by dsimp only [List.set]; try rfl) (fun u hu hF => ?_) (fun v24 => ?_)
  · have h7_ : v23 = (Bo (finV A_b.lo)) := hF.1
    clear hF
    refine doesG_un rfl ?_
    obtain rfl := h7_
    refine (does_move (u := (Bo (finV A_b.lo))) (ev rfl)).mono ?_; rintro _ _ ⟨rfl, rfl⟩
    exact ⟨rfl, Ext.refl _⟩
  refine RW_d _ rfl (fun v => by dsimp only [List.set]; try rfl) (fun u hu hF => ?_) (fun v25 => ?_)
  · have h8_ : v24 = (Bo (finV A_b.lo)) := hF.1
    clear hF
    obtain rfl := h8_
    refine doesG_g (b := (finV A_b.lo)) rfl (yld rfl rfl) (fun hg1 => ?_) (fun hc => ⟨fun hg1 => absurd hg1 hc, Ext.refl _⟩)
    refine (does_move (u := (Pt b_b b_o)) (ev rfl)).mono ?_; rintro _ _ ⟨rfl, rfl⟩
    exact ⟨fun _ => rfl, Ext.refl _⟩
  refine RW_d _ rfl (fun v => by dsimp only [List.set]; try rfl) (fun u hu hF => ?_) (fun v26 => ?_)
  · have h9_ : (finV A_b.lo) = true → v25 = (Pt b_b b_o) := hF.1
    have h8_ : v24 = (Bo (finV A_b.lo)) := hF.2.1
    clear hF
    obtain rfl := h8_
    refine doesG_g (b := (finV A_b.lo)) rfl (yld rfl rfl) (fun hg1 => ?_) (fun hc => ⟨fun hg1 => absurd hg1 hc, Ext.refl _⟩)
    obtain rfl := h9_ hg1
    refine (does_nilCheck (ev rfl)).mono ?_; rintro _ _ ⟨rfl, rfl⟩
    exact ⟨fun _ => rfl, Ext.refl _⟩
  refine RW_d _ rfl (fun v => by dsimp only [List.set]; try rfl) (fun u hu hF => ?_) (fun v27 => ?_)
  · have h10_ : (finV A_b.lo) = true → v26 = (Pt b_b b_o) := hF.1
    have h8_ : v24 = (Bo (finV A_b.lo)) := hF.2.1
    clear hF
    obtain rfl := h8_
    refine doesG_g (b := (finV A_b.lo)) rfl (yld rfl rfl) (fun hg1 => ?_) (fun hc => ⟨fun hg1 => absurd hg1 hc, Ext.refl _⟩)
    obtain rfl := h10_ hg1
    refine (does_fieldAddr (ev rfl) fa29_1).mono ?_; rintro _ _ ⟨rfl, rfl⟩
    exact ⟨fun _ => rfl, Ext.refl _⟩
  refine RW_d _ rfl (fun v => by dsimp only [List.set]; try rfl) (fun u hu hF => ?_) (fun v28 => ?_)
  · have h11_ : (finV A_b.lo) = true → v27 = (Pt b_b (b_o + 3)) := hF.1
    have h8_ : v24 = (Bo (finV A_b.lo)) := hF.2.1
    clear hF
    obtain rfl := h8_
    refine doesG_g (b := (finV A_b.lo)) rfl (yld rfl rfl) (fun hg1 => ?_) (fun hc => ⟨fun hg1 => absurd hg1 hc, Ext.refl _⟩)
    obtain rfl := h11_ hg1
    refine (does_loadAgg (cs := [(Fl r7), (Fl r9), (Fl r11)]) (ev rfl) Try.isAgg27 Try.sizeOf27 (Cells.sub ((hc_b.ext (Ext.gr (Ext.refl w) E16)).ext hu) 3 3) rfl).mono ?_; rintro _ _ ⟨rfl, rfl⟩
    exact ⟨fun _ => rfl, Ext.refl _⟩
  refine RW_d _ rfl (fun v => by dsimp only [List.set]; try rfl) (fun u hu hF => ?_) (fun v29 => ?_)
  · have h12_ : (finV A_b.lo) = true → v28 = (.agg #[(Fl r7), (Fl r9), (Fl r11)]) := hF.1
    have h8_ : v24 = (Bo (finV A_b.lo)) := hF.2.1
    clear hF
    obtain rfl := h8_
    refine doesG_g (b := (finV A_b.lo)) rfl (yld rfl rfl) (fun hg1 => ?_) (fun hc => ⟨fun hg1 => absurd hg1 hc, Ext.refl _⟩)
    obtain rfl := h12_ hg1
    refine (does_call (args := #[(.agg #[(Fl r7), (Fl r9), (Fl r11)])]) cal15 (evs rfl) (c_spec_l01VFinite [(Fl r7), (Fl r9), (Fl r11)] A_b.hi _ ⟨r7, r9, r11, rfl, h8, h10, h12⟩)).mono ?_; rintro v u' ⟨hx, hv⟩
    exact ⟨fun _ => hv, hx⟩
  refine RW_d _ rfl (fun v => by dsimp only [List.set]; try rfl) (fun u hu hF => ?_) (fun v30 => ?_)
  · have h8_ : v24 = (Bo (finV A_b.lo)) := hF.1
    have h13_ : (finV A_b.lo) = true → v29 = (Bo (finV A_b.hi)) := hF.2.1
    clear hF
    refine doesG_un rfl ?_
    skip
    obtain rfl := h8_
    refine (does_pick (b := (finV A_b.lo)) (u := v29) (v := (Bo false)) (ev rfl) (ev rfl) (ev rfl)).mono ?_; rintro _ _ ⟨rfl, rfl⟩; refine ⟨?_, Ext.refl _⟩; rw [hβ1]; skip
    cases hbb : (finV A_b.lo)
    all_goals first | (show _ = _; simp only [↓reduceIte, Bool.true_and, Bool.false_and, Bool.true_or, Bool.false_or, Bool.false_eq_true]; done) | (have e_ := h13_ hbb; subst e_; show _ = _; simp only [↓reduceIte, Bool.true_and, Bool.false_and, Bool.true_or, Bool.false_or, Bool.false_eq_true]; done) | rfl | (have e_ := h13_ hbb; subst e_; rfl) | (simp [hbb] at h13_ ⊢; first | done | rfl | (subst h13_; rfl) | simp_all) | (simp [hbb] at h13_ ⊢; done)
  refine RW_d _ rfl (fun v => by dsimp only [List.set]; try rfl) (fun u hu hF => ?_) (fun v31 => ?_)
  · have h14_ : v30 = (Bo β1) := hF.1
    clear hF
    refine doesG_un rfl ?_
    obtain rfl := h14_
    refine (does_move (u := (Bo β1)) (ev rfl)).mono ?_; rintro _ _ ⟨rfl, rfl⟩
    exact ⟨rfl, Ext.refl _⟩
  refine RW_d _ rfl (fun v => by dsimp only [List.set]; try rfl) (fun u hu hF => ?_) (fun v32 => ?_)
  · have h15_ : v31 = (Bo β1) := hF.1
    clear hF
    obtain rfl := h15_
    refine doesG_g (b := β1) rfl (yld rfl rfl) (fun hg1 => ?_) (fun hc => ⟨fun hg1 => absurd hg1 hc, Ext.refl _⟩)
    refine (does_move (u := (Pt b_b b_o)) (ev rfl)).mono ?_; rintro _ _ ⟨rfl, rfl⟩
    exact ⟨fun _ => rfl, Ext.refl _⟩
  refine RW_d _ rfl (fun v => by dsimp only [List.set]; try rfl) (fun u hu hF => ?_) (fun v33 => ?_)
  · have h16_ : β1 = true → v32 = (Pt b_b b_o) := hF.1
    have h15_ : v31 = (Bo β1) := hF.2.1
    clear hF
    obtain rfl := h15_
    refine doesG_g (b := β1) rfl (yld rfl rfl) (fun hg1 => ?_) (fun hc => ⟨fun hg1 => absurd hg1 hc, Ext.refl _⟩)
    obtain rfl := h16_ hg1
    refine (does_nilCheck (ev rfl)).mono ?_; rintro _ _ ⟨rfl, rfl⟩
    exact ⟨fun _ => rfl, Ext.refl _⟩
  refine RW_d _ rfl (fun v => by dsimp only [List.set]; try rfl) (fun u hu hF => ?_) (fun v34 => ?_)
  · have h17_ : β1 = true → v33 = (Pt b_b b_o) := hF.1
    have h15_ : v31 = (Bo β1) := hF.2.1
    clear hF
    obtain rfl := h15_
    refine doesG_g (b := β1) rfl (yld rfl rfl) (fun hg1 => ?_) (fun hc => ⟨fun hg1 => absurd hg1 hc, Ext.refl _⟩)
    obtain rfl := h17_ hg1
    refine (does_fieldAddr (ev rfl) fa29_0).mono ?_; rintro _ _ ⟨rfl, rfl⟩
    exact ⟨fun _ => rfl, Ext.refl _⟩
  refine RW_d _ rfl (fun v => by dsimp only [List.set]; try rfl) (fun u hu hF => ?_) (fun v35 => ?_)
  · have h18_ : β1 = true → v34 = (Pt b_b b_o) := hF.1
    have h15_ : v31 = (Bo β1) := hF.2.1
    clear hF
    obtain rfl := h15_
    refine doesG_g (b := β1) rfl (yld rfl rfl) (fun hg1 => ?_) (fun hc => ⟨fun hg1 => absurd hg1 hc, Ext.refl _⟩)
    obtain rfl := h18_ hg1
    refine (does_fieldAddr (ev rfl) fa27_0).mono ?_; rintro _ _ ⟨rfl, rfl⟩
    exact ⟨fun _ => rfl, Ext.refl _⟩
  refine RW_d _ rfl (fun v => by dsimp only [List.set]; try rfl) (fun u hu hF => ?_) (fun v36 => ?_)
  · have h19_ : β1 = true → v35 = (Pt b_b b_o) := hF.1
    have h15_ : v31 = (Bo β1) := hF.2.1
    clear hF
    obtain rfl := h15_
    refine doesG_g (b := β1) rfl (yld rfl rfl) (fun hg1 => ?_) (fun hc => ⟨fun hg1 => absurd hg1 hc, Ext.refl _⟩)
    obtain rfl := h19_ hg1
    refine (does_load (u := (Fl r1)) (ev rfl) Try.isAgg22 (Cells.at ((hc_b.ext (Ext.gr (Ext.refl w) E16)).ext hu) 0 rfl)).mono ?_; rintro _ _ ⟨rfl, rfl⟩
    exact ⟨fun _ => rfl, Ext.refl _⟩
  refine RW_d _ rfl (fun v => by dsimp only [List.set]; try rfl) (fun u hu hF => ?_) (fun v37 => ?_)
  · have h15_ : v31 = (Bo β1) := hF.1
    clear hF
    obtain rfl := h15_
    refine doesG_g (b := β1) rfl (yld rfl rfl) (fun hg1 => ?_) (fun hc => ⟨fun hg1 => absurd hg1 hc, Ext.refl _⟩)
    refine (does_move (u := (Pt b_b b_o)) (ev rfl)).mono ?_; rintro _ _ ⟨rfl, rfl⟩
    exact ⟨fun _ => rfl, Ext.refl _⟩
  refine RW_d _ rfl (fun v => by dsimp only [List.set]; try rfl) (fun u hu hF => ?_) (fun v38 => ?_)
  · have h21_ : β1 = true → v37 = (Pt b_b b_o) := hF.1
    have h15_ : v31 = (Bo β1) := hF.2.1
    clear hF
    obtain rfl := h15_
    refine doesG_g (b := β1) rfl (yld rfl rfl) (fun hg1 => ?_) (fun hc => ⟨fun hg1 => absurd hg1 hc, Ext.refl _⟩)
    obtain rfl := h21_ hg1
    refine (does_nilCheck (ev rfl)).mono ?_; rintro _ _ ⟨rfl, rfl⟩
    exact ⟨fun _ => rfl, Ext.refl _⟩
  refine RW_d _ rfl (fun v => by dsimp only [List.set]; try rfl) (fun u hu hF => ?_) (fun v39 => ?_)
  · have h22_ : β1 = true → v38 = (Pt b_b b_o) := hF.1
    have h15_ : v31 = (Bo β1) := hF.2.1
    clear hF
    obtain rfl := h15_
    refine doesG_g (b := β1) rfl (yld rfl rfl) (fun hg1 => ?_) (fun hc => ⟨fun hg1 => absurd hg1 hc, Ext.refl _⟩)
    obtain rfl := h22_ hg1
    refine (does_fieldAddr (ev rfl) fa29_1).mono ?_; rintro _ _ ⟨rfl, rfl⟩
    exact ⟨fun _ => rfl, Ext.refl _⟩
  refine RW_d _ rfl (fun v => by dsimp only [List.set]; try rfl) (fun u hu hF => ?_) (fun v40 => ?_)
  · have h23_ : β1 = true → v39 = (Pt b_b (b_o + 3)) := hF.1
    have h15_ : v31 = (Bo β1) := hF.2.1
    clear hF
    obtain rfl := h15_
    refine doesG_g (b := β1) rfl (yld rfl rfl) (fun hg1 => ?_) (fun hc => ⟨fun hg1 => absurd hg1 hc, Ext.refl _⟩)
    obtain rfl := h23_ hg1
    refine (does_fieldAddr (ev rfl) fa27_0).mono ?_; rintro _ _ ⟨rfl, rfl⟩
    exact ⟨fun _ => rfl, Ext.refl _⟩
  refine RW_d _ rfl (fun v => by dsimp only [List.set]; try rfl) (fun u hu hF => ?_) (fun v41 => ?_)
  · have h24_ : β1 = true → v40 = (Pt b_b (b_o + 3)) := hF.1
    have h15_ : v31 = (Bo β1) := hF.2.1
    clear hF
    obtain rfl := h15_
    refine doesG_g (b := β1) rfl (yld rfl rfl) (fun hg1 => ?_) (fun hc => ⟨fun hg1 => absurd hg1 hc, Ext.refl _⟩)
    obtain rfl := h24_ hg1
    refine (does_load (u := (Fl r7)) (ev rfl) Try.isAgg22 (Cells.at ((hc_b.ext (Ext.gr (Ext.refl w) E16)).ext hu) 3 rfl)).mono ?_; rintro _ _ ⟨rfl, rfl⟩
    exact ⟨fun _ => rfl, Ext.refl _⟩
  refine RW_d _ rfl (fun v => by dsimp only [List.set]; try rfl) (fun u hu hF => ?_) (fun v42 => ?_)
  · have h20_ : β1 = true → v36 = (Fl r1) := hF.1
    have h25_ : β1 = true → v41 = (Fl r7) := hF.2.1
    have h15_ : v31 = (Bo β1) := hF.2.2.1
    clear hF
    obtain rfl := h15_
    refine doesG_g (b := β1) rfl (yld rfl rfl) (fun hg1 => ?_) (fun hc => ⟨fun hg1 => absurd hg1 hc, Ext.refl _⟩)
    obtain rfl := h20_ hg1
    obtain rfl := h25_ hg1
    refine (does_fcmp (.inr (.inr (.inr (.inl rfl)))) (ev rfl) (ev rfl)).mono ?_; rintro _ _ ⟨rfl, rfl⟩
    exact ⟨fun _ => (by first | rfl | (show _ = _; simp only [hβ2]; done) | (show _ = _; simp only [hβ2]; rfl)), Ext.refl _⟩
  refine RW_d _ rfl (fun v => by dsimp only [List.set]; try rfl) (fun u hu hF => ?_) (fun v43 => ?_)
  · have h15_ : v31 = (Bo β1) := hF.1
    have h26_ : β1 = true → v42 = (Bo β2) := hF.2.1
    clear hF
    refine doesG_un rfl ?_
    skip
    obtain rfl := h15_
    refine (does_pick (b := β1) (u := v42) (v := (Bo false)) (ev rfl) (ev rfl) (ev rfl)).mono ?_; rintro _ _ ⟨rfl, rfl⟩; refine ⟨?_, Ext.refl _⟩; skip
    cases hbb : β1
    all_goals first | (show _ = _; simp only [↓reduceIte, Bool.true_and, Bool.false_and, Bool.true_or, Bool.false_or, Bool.false_eq_true]; done) | (have e_ := h26_ hbb; subst e_; show _ = _; simp only [↓reduceIte, Bool.true_and, Bool.false_and, Bool.true_or, Bool.false_or, Bool.false_eq_true]; done) | rfl | (have e_ := h26_ hbb; subst e_; rfl) | (simp [hbb] at h26_ ⊢; first | done | rfl | (subst h26_; rfl) | simp_all) | (simp [hbb] at h26_ ⊢; done)
  refine RW_d _ rfl (fun v => by dsimp only [List.set]; try rfl) (fun u hu hF => ?_) (fun v44 => ?_)
  · have h27_ : v43 = (Bo (β1 && β2)) := hF.1
    clear hF
    refine doesG_un rfl ?_
    obtain rfl := h27_
    refine (does_move (u := (Bo (β1 && β2))) (ev rfl)).mono ?_; rintro _ _ ⟨rfl, rfl⟩
    exact ⟨rfl, Ext.refl _⟩
  refine RW_d _ rfl (fun v => by dsimp only [List.set]; try rfl) (fun u hu hF => ?_) (fun v45 => ?_)
  · have h28_ : v44 = (Bo (β1 && β2)) := hF.1
    clear hF
    obtain rfl := h28_
    refine doesG_g (b := (β1 && β2)) rfl (yld rfl rfl) (fun hg1 => ?_) (fun hc => ⟨fun hg1 => absurd hg1 hc, Ext.refl _⟩)
    refine (does_move (u := (Pt b_b b_o)) (ev rfl)).mono ?_; rintro _ _ ⟨rfl, rfl⟩
    exact ⟨fun _ => rfl, Ext.refl _⟩
  refine RW_d _ rfl (fun v => by dsimp only [List.set]; try rfl) (fun u hu hF => ?_) (fun v46 => ?_)
  · have h29_ : (β1 && β2) = true → v45 = (Pt b_b b_o) := hF.1
    have h28_ : v44 = (Bo (β1 && β2)) := hF.2.1
    clear hF
    obtain rfl := h28_
    refine doesG_g (b := (β1 && β2)) rfl (yld rfl rfl) (fun hg1 => ?_) (fun hc => ⟨fun hg1 => absurd hg1 hc, Ext.refl _⟩)
    obtain rfl := h29_ hg1
    refine (does_nilCheck (ev rfl)).mono ?_; rintro _ _ ⟨rfl, rfl⟩
    exact ⟨fun _ => rfl, Ext.refl _⟩
  refine RW_d _ rfl (fun v => by dsimp only [List.set]; try rfl) (fun u hu hF => ?_) (fun v47 => ?_)
  · have h30_ : (β1 && β2) = true → v46 = (Pt b_b b_o) := hF.1
    have h28_ : v44 = (Bo (β1 && β2)) := hF.2.1
    clear hF
    obtain rfl := h28_
    refine doesG_g (b := (β1 && β2)) rfl (yld rfl rfl) (fun hg1 => ?_) (fun hc => ⟨fun hg1 => absurd hg1 hc, Ext.refl _⟩)
    obtain rfl := h30_ hg1
    refine (does_fieldAddr (ev rfl) fa29_0).mono ?_; rintro _ _ ⟨rfl, rfl⟩
    exact ⟨fun _ => rfl, Ext.refl _⟩
  refine RW_d _ rfl (fun v => by dsimp only [List.set]; try rfl) (fun u hu hF => ?_) (fun v48 => ?_)
  · have h31_ : (β1 && β2) = true → v47 = (Pt b_b b_o) := hF.1
    have h28_ : v44 = (Bo (β1 && β2)) := hF.2.1
    clear hF
    obtain rfl := h28_
    refine doesG_g (b := (β1 && β2)) rfl (yld rfl rfl) (fun hg1 => ?_) (fun hc => ⟨fun hg1 => absurd hg1 hc, Ext.refl _⟩)
    obtain rfl := h31_ hg1
    refine (does_fieldAddr (ev rfl) fa27_1).mono ?_; rintro _ _ ⟨rfl, rfl⟩
    exact ⟨fun _ => rfl, Ext.refl _⟩
  refine RW_d _ rfl (fun v => by dsimp only [List.set]; try rfl) (fun u hu hF => ?_) (fun v49 => ?_)
  · have h32_ : (β1 && β2) = true → v48 = (Pt b_b (b_o + 1)) := hF.1
    have h28_ : v44 = (Bo (β1 && β2)) := hF.2.1
    clear hF
    obtain rfl := h28_
    refine doesG_g (b := (β1 && β2)) rfl (yld rfl rfl) (fun hg1 => ?_) (fun hc => ⟨fun hg1 => absurd hg1 hc, Ext.refl _⟩)
    obtain rfl := h32_ hg1
    refine (does_load (u := (Fl r3)) (ev rfl) Try.isAgg22 (Cells.at ((hc_b.ext (Ext.gr (Ext.refl w) E16)).ext hu) 1 rfl)).mono ?_; rintro _ _ ⟨rfl, rfl⟩
    exact ⟨fun _ => rfl, Ext.refl _⟩
  refine RW_d _ rfl (fun v => by dsimp only [List.set]; try rfl) (fun u hu hF => ?_) (fun v50 => ?_)
  · have h28_ : v44 = (Bo (β1 && β2)) := hF.1
    clear hF
    obtain rfl := h28_
    refine doesG_g (b := (β1 && β2)) rfl (yld rfl rfl) (fun hg1 => ?_) (fun hc => ⟨fun hg1 => absurd hg1 hc, Ext.refl _⟩)
    refine (does_move (u := (Pt b_b b_o)) (ev rfl)).mono ?_; rintro _ _ ⟨rfl, rfl⟩
    exact ⟨fun _ => rfl, Ext.refl _⟩
  refine RW_d _ rfl (fun v => by dsimp only [List.set]; try rfl) (fun u hu hF => ?_) (fun v51 => ?_)
  · have h34_ : (β1 && β2) = true → v50 = (Pt b_b b_o) := hF.1
    have h28_ : v44 = (Bo (β1 && β2)) := hF.2.1
    clear hF
    obtain rfl := h28_
    refine doesG_g (b := (β1 && β2)) rfl (yld rfl rfl) (fun hg1 => ?_) (fun hc => ⟨fun hg1 => absurd hg1 hc, Ext.refl _⟩)
    obtain rfl := h34_ hg1
    refine (does_nilCheck (ev rfl)).mono ?_; rintro _ _ ⟨rfl, rfl⟩
    exact ⟨fun _ => rfl, Ext.refl _⟩
  refine RW_d _ rfl (fun v => by dsimp only [List.set]; try rfl) (fun u hu hF => ?_) (fun v52 => ?_)
  · have h35_ : (β1 && β2) = true → v51 = (Pt b_b b_o) := hF.1
    have h28_ : v44 = (Bo (β1 && β2)) := hF.2.1
    clear hF
    obtain rfl := h28_
    refine doesG_g (b := (β1 && β2)) rfl (yld rfl rfl) (fun hg1 => ?_) (fun hc => ⟨fun hg1 => absurd hg1 hc, Ext.refl _⟩)
    obtain rfl := h35_ hg1
    refine (does_fieldAddr (ev rfl) fa29_1).mono ?_; rintro _ _ ⟨rfl, rfl⟩
    exact ⟨fun _ => rfl, Ext.refl _⟩
  refine RW_d _ rfl (fun v => by dsimp only [List.set]; try rfl) (fun u hu hF => ?_) (fun v53 => ?_)
  · have h36_ : (β1 && β2) = true → v52 = (Pt b_b (b_o + 3)) := hF.1
    have h28_ : v44 = (Bo (β1 && β2)) := hF.2.1
    clear hF
    obtain rfl := h28_
    refine doesG_g (b := (β1 && β2)) rfl (yld rfl rfl) (fun hg1 => ?_) (fun hc => ⟨fun hg1 => absurd hg1 hc, Ext.refl _⟩)
    obtain rfl := h36_ hg1
    refine (does_fieldAddr (ev rfl) fa27_1).mono ?_; rintro _ _ ⟨rfl, rfl⟩
    exact ⟨fun _ => rfl, Ext.refl _⟩
  refine RW_d _ rfl (fun v => by dsimp only [List.set]; try rfl) (fun u hu hF => ?_) (fun v54 => ?_)
  · have h37_ : (β1 && β2) = true → v53 = (Pt b_b (b_o + 4)) := hF.1
    have h28_ : v44 = (Bo (β1 && β2)) := hF.2.1
    clear hF
    obtain rfl := h28_
    refine doesG_g (b := (β1 && β2)) rfl (yld rfl rfl) (fun hg1 => ?_) (fun hc => ⟨fun hg1 => absurd hg1 hc, Ext.refl _⟩)
    obtain rfl := h37_ hg1
    refine (does_load (u := (Fl r9)) (ev rfl) Try.isAgg22 (Cells.at ((hc_b.ext (Ext.gr (Ext.refl w) E16)).ext hu) 4 rfl)).mono ?_; rintro _ _ ⟨rfl, rfl⟩
    exact ⟨fun _ => rfl, Ext.refl _⟩
  refine RW_d _ rfl (fun v => by dsimp only [List.set]; try rfl) (fun u hu hF => ?_) (fun v55 => ?_)
  · have h33_ : (β1 && β2) = true → v49 = (Fl r3) := hF.1
    have h38_ : (β1 && β2) = true → v54 = (Fl r9) := hF.2.1
    have h28_ : v44 = (Bo (β1 && β2)) := hF.2.2.1
    clear hF
    obtain rfl := h28_
    refine doesG_g (b := (β1 && β2)) rfl (yld rfl rfl) (fun hg1 => ?_) (fun hc => ⟨fun hg1 => absurd hg1 hc, Ext.refl _⟩)
    obtain rfl := h33_ hg1
    obtain rfl := h38_ hg1
    refine (does_fcmp (.inr (.inr (.inr (.inl rfl)))) (ev rfl) (ev rfl)).mono ?_; rintro _ _ ⟨rfl, rfl⟩
    exact ⟨fun _ => (by first | rfl | (show _ = _; simp only [hβ3]; done) | (show _ = _; simp only [hβ3]; rfl)), Ext.refl _⟩
  refine RW_d _ rfl (fun v => by dsimp only [List.set]; try rfl) (fun u hu hF => ?_) (fun v56 => ?_)
  · have h28_ : v44 = (Bo (β1 && β2)) := hF.1
    have h39_ : (β1 && β2) = true → v55 = (Bo β3) := hF.2.1
    clear hF
    refine doesG_un rfl ?_
    skip
    obtain rfl := h28_
    refine (does_pick (b := (β1 && β2)) (u := v55) (v := (Bo false)) (ev rfl) (ev rfl) (ev rfl)).mono ?_; rintro _ _ ⟨rfl, rfl⟩; refine ⟨?_, Ext.refl _⟩; skip
    cases hbb : (β1 && β2)
    all_goals first | (show _ = _; simp only [↓reduceIte, Bool.true_and, Bool.false_and, Bool.true_or, Bool.false_or, Bool.false_eq_true]; done) | (have e_ := h39_ hbb; subst e_; show _ = _; simp only [↓reduceIte, Bool.true_and, Bool.false_and, Bool.true_or, Bool.false_or, Bool.false_eq_true]; done) | rfl | (have e_ := h39_ hbb; subst e_; rfl) | (simp [hbb] at h39_ ⊢; first | done | rfl | (subst h39_; rfl) | simp_all) | (simp [hbb] at h39_ ⊢; done)
  refine RW_d _ rfl (fun v => by dsimp only [List.set]; try rfl) (fun u hu hF => ?_) (fun v57 => ?_)
  · have h40_ : v56 = (Bo ((β1 && β2) && β3)) := hF.1
    clear hF
    refine doesG_un rfl ?_
    obtain rfl := h40_
    refine (does_move (u := (Bo ((β1 && β2) && β3))) (ev rfl)).mono ?_; rintro _ _ ⟨rfl, rfl⟩
    exact ⟨rfl, Ext.refl _⟩
  refine RW_d _ rfl (fun v => by dsimp only [List.set]; try rfl) (fun u hu hF => ?_) (fun v58 => ?_)
  · have h41_ : v57 = (Bo ((β1 && β2) && β3)) := hF.1
    clear hF
    obtain rfl := h41_
    refine doesG_g (b := ((β1 && β2) && β3)) rfl (yld rfl rfl) (fun hg1 => ?_) (fun hc => ⟨fun hg1 => absurd hg1 hc, Ext.refl _⟩)
    refine (does_move (u := (Pt b_b b_o)) (ev rfl)).mono ?_; rintro _ _ ⟨rfl, rfl⟩
    exact ⟨fun _ => rfl, Ext.refl _⟩
  refine RW_d _ rfl (fun v => by dsimp only [List.set]; try rfl) (fun u hu hF => ?_) (fun v59 => ?_)
  · have h42_ : ((β1 && β2) && β3) = true → v58 = (Pt b_b b_o) := hF.1
    have h41_ : v57 = (Bo ((β1 && β2) && β3)) := hF.2.1
    clear hF
    obtain rfl := h41_
    refine doesG_g (b := ((β1 && β2) && β3)) rfl (yld rfl rfl) (fun hg1 => ?_) (fun hc => ⟨fun hg1 => absurd hg1 hc, Ext.refl _⟩)
    obtain rfl := h42_ hg1
    refine (does_nilCheck (ev rfl)).mono ?_; rintro _ _ ⟨rfl, rfl⟩
    exact ⟨fun _ => rfl, Ext.refl _⟩
  refine RW_d _ rfl (fun v => by dsimp only [List.set]; try rfl) (fun u hu hF => ?_) (fun v60 => ?_)
  · have h43_ : ((β1 && β2) && β3) = true → v59 = (Pt b_b b_o) := hF.1
    have h41_ : v57 = (Bo ((β1 && β2) && β3)) := hF.2.1
    clear hF
    obtain rfl := h41_
    refine doesG_g (b := ((β1 && β2) && β3)) rfl (yld rfl rfl) (fun hg1 => ?_) (fun hc => ⟨fun hg1 => absurd hg1 hc, Ext.refl _⟩)
    obtain rfl := h43_ hg1
    refine (does_fieldAddr (ev rfl) fa29_0).mono ?_; rintro _ _ ⟨rfl, rfl⟩
    exact ⟨fun _ => rfl, Ext.refl _⟩
  refine RW_d _ rfl (fun v => by dsimp only [List.set]; try rfl) (fun u hu hF => ?_) (fun v61 => ?_)
  · have h44_ : ((β1 && β2) && β3) = true → v60 = (Pt b_b b_o) := hF.1
    have h41_ : v57 = (Bo ((β1 && β2) && β3)) := hF.2.1
    clear hF
    obtain rfl := h41_
    refine doesG_g (b := ((β1 && β2) && β3)) rfl (yld rfl rfl) (fun hg1 => ?_) (fun hc => ⟨fun hg1 => absurd hg1 hc, Ext.refl _⟩)
    obtain rfl := h44_ hg1
    refine (does_fieldAddr (ev rfl) fa27_2).mono ?_; rintro _ _ ⟨rfl, rfl⟩
    exact ⟨fun _ => rfl, Ext.refl _⟩
  refine RW_d _ rfl (fun v => by dsimp only [List.set]; try rfl) (fun u hu hF => ?_) (fun v62 => ?_)
  · have h45_ : ((β1 && β2) && β3) = true → v61 = (Pt b_b (b_o + 2)) := hF.1
    have h41_ : v57 = (Bo ((β1 && β2) && β3)) := hF.2.1
    clear hF
    obtain rfl := h41_
    refine doesG_g (b := ((β1 && β2) && β3)) rfl (yld rfl rfl) (fun hg1 => ?_) (fun hc => ⟨fun hg1 => absurd hg1 hc, Ext.refl _⟩)
    obtain rfl := h45_ hg1
    refine (does_load (u := (Fl r5)) (ev rfl) Try.isAgg22 (Cells.at ((hc_b.ext (Ext.gr (Ext.refl w) E16)).ext hu) 2 rfl)).mono ?_; rintro _ _ ⟨rfl, rfl⟩
    exact ⟨fun _ => rfl, Ext.refl _⟩
  refine RW_d _ rfl (fun v => by dsimp only [List.set]; try rfl) (fun u hu hF => ?_) (fun v63 => ?_)
  · have h41_ : v57 = (Bo ((β1 && β2) && β3)) := hF.1
    clear hF
    obtain rfl := h41_
    refine doesG_g (b := ((β1 && β2) && β3)) rfl (yld rfl rfl) (fun hg1 => ?_) (fun hc => ⟨fun hg1 => absurd hg1 hc, Ext.refl _⟩)
    refine (does_move (u := (Pt b_b b_o)) (ev rfl)).mono ?_; rintro _ _ ⟨rfl, rfl⟩
    exact ⟨fun _ => rfl, Ext.refl _⟩
  refine RW_d _ rfl (fun v => by dsimp only [List.set]; try rfl) (fun u hu hF => ?_) (fun v64 => ?_)
  · have h47_ : ((β1 && β2) && β3) = true → v63 = (Pt b_b b_o) := hF.1
    have h41_ : v57 = (Bo ((β1 && β2) && β3)) := hF.2.1
    clear hF
    obtain rfl := h41_
    refine doesG_g (b := ((β1 && β2) && β3)) rfl (yld rfl rfl) (fun hg1 => ?_) (fun hc => ⟨fun hg1 => absurd hg1 hc, Ext.refl _⟩)
    obtain rfl := h47_ hg1
    refine (does_nilCheck (ev rfl)).mono ?_; rintro _ _ ⟨rfl, rfl⟩
    exact ⟨fun _ => rfl, Ext.refl _⟩
  refine RW_d _ rfl (fun v => by dsimp only [List.set]; try rfl) (fun u hu hF => ?_) (fun v65 => ?_)
  · have h48_ : ((β1 && β2) && β3) = true → v64 = (Pt b_b b_o) := hF.1
    have h41_ : v57 = (Bo ((β1 && β2) && β3)) := hF.2.1
    clear hF
    obtain rfl := h41_
    refine doesG_g (b := ((β1 && β2) && β3)) rfl (yld rfl rfl) (fun hg1 => ?_) (fun hc => ⟨fun hg1 => absurd hg1 hc, Ext.refl _⟩)
    obtain rfl := h48_ hg1
    refine (does_fieldAddr (ev rfl) fa29_1).mono ?_; rintro _ _ ⟨rfl, rfl⟩
    exact ⟨fun _ => rfl, Ext.refl _⟩
  refine RW_d _ rfl (fun v => by dsimp only [List.set]; try rfl) (fun u hu hF => ?_) (fun v66 => ?_)
  · have h49_ : ((β1 && β2) && β3) = true → v65 = (Pt b_b (b_o + 3)) := hF.1
    have h41_ : v57 = (Bo ((β1 && β2) && β3)) := hF.2.1
    clear hF
    obtain rfl := h41_
    refine doesG_g (b := ((β1 && β2) && β3)) rfl (yld rfl rfl) (fun hg1 => ?_) (fun hc => ⟨fun hg1 => absurd hg1 hc, Ext.refl _⟩)
    obtain rfl := h49_ hg1
    refine (does_fieldAddr (ev rfl) fa27_2).mono ?_; rintro _ _ ⟨rfl, rfl⟩
    exact ⟨fun _ => rfl, Ext.refl _⟩
  refine RW_d _ rfl (fun v => by dsimp only [List.set]; try rfl) (fun u hu hF => ?_) (fun v67 => ?_)
  · have h50_ : ((β1 && β2) && β3) = true → v66 = (Pt b_b (b_o + 5)) := hF.1
    have h41_ : v57 = (Bo ((β1 && β2) && β3)) := hF.2.1
    clear hF
    obtain rfl := h41_
    refine doesG_g (b := ((β1 && β2) && β3)) rfl (yld rfl rfl) (fun hg1 => ?_) (fun hc => ⟨fun hg1 => absurd hg1 hc, Ext.refl _⟩)
    obtain rfl := h50_ hg1
    refine (does_load (u := (Fl r11)) (ev rfl) Try.isAgg22 (Cells.at ((hc_b.ext (Ext.gr (Ext.refl w) E16)).ext hu) 5 rfl)).mono ?_; rintro _ _ ⟨rfl, rfl⟩
    exact ⟨fun _ => rfl, Ext.refl _⟩
  refine RW_d _ rfl (fun v => by dsimp only [List.set]; try rfl) (fun u hu hF => ?_) (fun v68 => ?_)
  · have h46_ : ((β1 && β2) && β3) = true → v62 = (Fl r5) := hF.1
    have h51_ : ((β1 && β2) && β3) = true → v67 = (Fl r11) := hF.2.1
    have h41_ : v57 = (Bo ((β1 && β2) && β3)) := hF.2.2.1
    clear hF
    obtain rfl := h41_
    refine doesG_g (b := ((β1 && β2) && β3)) rfl (yld rfl rfl) (fun hg1 => ?_) (fun hc => ⟨fun hg1 => absurd hg1 hc, Ext.refl _⟩)
    obtain rfl := h46_ hg1
    obtain rfl := h51_ hg1
    refine (does_fcmp (.inr (.inr (.inr (.inl rfl)))) (ev rfl) (ev rfl)).mono ?_; rintro _ _ ⟨rfl, rfl⟩
    exact ⟨fun _ => (by first | rfl | (show _ = _; simp only [hβ4]; done) | (show _ = _; simp only [hβ4]; rfl)), Ext.refl _⟩
  refine RW_d _ rfl (fun v => by dsimp only [List.set]; try rfl) (fun u hu hF => ?_) (fun v69 => ?_)
  · have h41_ : v57 = (Bo ((β1 && β2) && β3)) := hF.1
    have h52_ : ((β1 && β2) && β3) = true → v68 = (Bo β4) := hF.2.1
    clear hF
    refine doesG_un rfl ?_
    skip
    obtain rfl := h41_
    refine (does_pick (b := ((β1 && β2) && β3)) (u := v68) (v := (Bo false)) (ev rfl) (ev rfl) (ev rfl)).mono ?_; rintro _ _ ⟨rfl, rfl⟩; refine ⟨?_, Ext.refl _⟩; skip
    cases hbb : ((β1 && β2) && β3)
    all_goals first | (show _ = _; simp only [↓reduceIte, Bool.true_and, Bool.false_and, Bool.true_or, Bool.false_or, Bool.false_eq_true]; done) | (have e_ := h52_ hbb; subst e_; show _ = _; simp only [↓reduceIte, Bool.true_and, Bool.false_and, Bool.true_or, Bool.false_or, Bool.false_eq_true]; done) | rfl | (have e_ := h52_ hbb; subst e_; rfl) | (simp [hbb] at h52_ ⊢; first | done | rfl | (subst h52_; rfl) | simp_all) | (simp [hbb] at h52_ ⊢; done)
  refine RW_fin ?_; intro w70 E71 hP72
  obtain ⟨⟨⟨⟨⟨⟨⟨⟨⟨⟨⟨⟨⟨⟨⟨⟨⟨⟨⟨⟨⟨⟨⟨⟨⟨⟨⟨⟨⟨⟨⟨⟨⟨⟨⟨⟨⟨⟨⟨⟨⟨⟨⟨⟨⟨⟨⟨⟨⟨⟨⟨-, -⟩, -⟩, -⟩, -⟩, -⟩, -⟩, -⟩, -⟩, -⟩, -⟩, -⟩, -⟩, -⟩, -⟩, -⟩, -⟩, -⟩, -⟩, -⟩, -⟩, -⟩, -⟩, -⟩, -⟩, -⟩, -⟩, -⟩, -⟩, -⟩, -⟩, -⟩, -⟩, -⟩, -⟩, -⟩, -⟩, -⟩, -⟩, -⟩, -⟩, -⟩, -⟩, -⟩, -⟩, -⟩, -⟩, -⟩, -⟩, -⟩, -⟩, q73⟩ := hP72
  have X74 := Ext.gr X18 E71
  have q73 : v69 = (Bo (((β1 && β2) && β3) && β4)) := q73
  obtain rfl := q73
  show wpList _ _ _ _ (fr [_, _, _, _, _, _, _, _, _, _, _, _, _, _, _, _, _, _, _, _, _, _, _, _, _, _, _, _, _, _, _, _, _, _, _, _, _, _, _, _, _, _, _, _, _, _, _, _, _, _, _, _, _, _]) _
  refine q_is rfl rfl (does_assign (u := (Bo (((β1 && β2) && β3) && β4))) (ev rfl)) (by dsimp only [List.set]; try rfl) ?_
  refine wpList_nil (hK14 _ _ ?_)
  refine wp_ret ?_
  refine ret_val (v := (Bo (((β1 && β2) && β3) && β4))) (res_T rfl (slot rfl)) X74 ?_
  have x75 : (isBox A_b) = (((β1 && β2) && β3) && β4) := by first | with_reducible rfl | (simp only [isBox, h2, h4, h6, h8, h10, h12, hβ1, hβ2, hβ3, hβ4]; done) | (simp [isBox, h2, h4, h6, h8, h10, h12, hβ1, hβ2, hβ3, hβ4]; done) | rfl
  exact (by first | with_reducible rfl | rw [x75] | rfl)

/- spec.l02Pick -/
theorem c_spec_l02Pick (v : List Value) (A_v : V3) (n_ : Int) (w : World) (hv_v : RV3 w A_v v) : Gives Try.prog 16 #[(.agg v.toArray), (Iv n_)] w (fun v w' => ∃ r_1 : Nat, v = (Fl r_1) ∧ cf .f32 r_1 = pickV A_v n_) := by
  obtain ⟨r1, r3, r5, rfl, h2, h4, h6⟩ := hv_v
  refine enter [(.agg #[(Fl r1), (Fl r3), (Fl r5)]), (Iv n_), Ud, Ud, Ud, Ud, Ud, Ud, Ud, Ud, Ud, Ud, Ud, Ud, Ud, Ud] Try.func16 rfl Try.ntmps16 rfl ?_
  refine wp_seq_k fun K7 hK7 => ?_
  refine wp_region_lit ?_
  refine seqd rfl rfl (does_box (u := (.agg #[(Fl r1), (Fl r3), (Fl r5)])) (ev rfl)) ?_; rintro _ w12 ⟨b8, rfl, hb9, hB10, E11⟩
  have g13 : w.heap.size ≤ b8 := Nat.le_trans (Below.size (Ext.refl w)) hb9
  change Blk _ _ [(Fl r1), (Fl r3), (Fl r5)] at hB10
  have X14 := Ext.gr (Ext.refl w) E11
  show wpList _ _ _ _ (fr [(.agg #[(Fl r1), (Fl r3), (Fl r5)]), (Iv n_), (Pt b8 0), Ud, Ud, Ud, Ud, Ud, Ud, Ud, Ud, Ud, Ud, Ud, Ud, Ud]) _
  refine q_is (l' := [(.agg #[(Fl r1), (Fl r3), (Fl r5)]), (Iv n_), (Pt b8 0), Ud, (Fl 0), Ud, Ud, Ud, Ud, Ud, Ud, Ud, Ud, Ud, Ud, Ud]) rfl rfl (does_assign (u := (Fl 0)) (ev rfl)) rfl ?_
  refine wpList_nil (hK7 _ _ ?_)
  refine wp_seq_k fun K15 hK15 => ?_
  refine wp_seq_k fun K16 hK16 => ?_
  refine wp_region_lit ?_
  refine q_is (l' := [(.agg #[(Fl r1), (Fl r3), (Fl r5)]), (Iv n_), (Pt b8 0), Ud, (Fl 0), (Iv n_), Ud, Ud, Ud, Ud, Ud, Ud, Ud, Ud, Ud, Ud]) rfl rfl (does_move (u := (Iv n_)) (ev rfl)) rfl ?_
  refine wpList_nil (hK16 _ _ ?_)
  refine wp_block ?_
  refine wp_seq_k fun K17 hK17 => ?_
  refine wp_region_lit ?_
  refine q_is (l' := [(.agg #[(Fl r1), (Fl r3), (Fl r5)]), (Iv n_), (Pt b8 0), Ud, (Fl 0), (Iv n_), Ud, (Bo (icmp .eql n_ 0)), Ud, Ud, Ud, Ud, Ud, Ud, Ud, Ud]) rfl rfl (does_icmp (p := n_) (q := 0) (.inl rfl) (ev rfl) (ev rfl)) rfl ?_
  refine q_is (l' := [(.agg #[(Fl r1), (Fl r3), (Fl r5)]), (Iv n_), (Pt b8 0), Ud, (Fl 0), (Iv n_), (Bo (icmp .eql n_ 0)), (Bo (icmp .eql n_ 0)), Ud, Ud, Ud, Ud, Ud, Ud, Ud, Ud]) rfl rfl (does_assign (u := (Bo (icmp .eql n_ 0))) (ev rfl)) rfl ?_
  refine wpList_nil (hK17 _ _ ?_)
  refine wp_cond_split (t := icmp .eql n_ 0) (ev rfl) (fun c18 => ?_) (fun c18 => ?_)
  · have c18' := c18
    (try simp only [icmp, Bool.and_eq_true, Bool.or_eq_true, Bool.and_eq_false_iff, Bool.or_eq_false_iff, Bool.not_eq_true', Bool.not_eq_false', decide_eq_true_eq, decide_eq_false_iff_not, beq_iff_eq, bne_iff_ne, beq_eq_false_iff_ne, bne_eq_false_iff_eq] at c18')
    refine wp_seq_k fun K19 hK19 => ?_
    refine wp_region_lit ?_
    refine q_is (l' := [(.agg #[(Fl r1), (Fl r3), (Fl r5)]), (Iv n_), (Pt b8 0), Ud, (Fl 0), (Iv n_), (Bo (icmp .eql n_ 0)), (Bo (icmp .eql n_ 0)), (Pt b8 0), Ud, Ud, Ud, Ud, Ud, Ud, Ud]) rfl rfl (does_fieldAddr (ev rfl) fa27_0) rfl ?_
    refine q_is (l' := [(.agg #[(Fl r1), (Fl r3), (Fl r5)]), (Iv n_), (Pt b8 0), Ud, (Fl 0), (Iv n_), (Bo (icmp .eql n_ 0)), (Bo (icmp .eql n_ 0)), (Pt b8 0), (Fl r1), Ud, Ud, Ud, Ud, Ud, Ud]) rfl rfl (does_load (u := (Fl r1)) (ev rfl) Try.isAgg22 (Cells.at (Blk.cells hB10) 0 rfl)) rfl ?_
    refine q_is (l' := [(.agg #[(Fl r1), (Fl r3), (Fl r5)]), (Iv n_), (Pt b8 0), Ud, (Fl r1), (Iv n_), (Bo (icmp .eql n_ 0)), (Bo (icmp .eql n_ 0)), (Pt b8 0), (Fl r1), Ud, Ud, Ud, Ud, Ud, Ud]) rfl rfl (does_assign (u := (Fl r1)) (ev rfl)) rfl ?_
    refine wpList_nil (hK19 _ _ ?_)
    refine wp_ret ?_
    dsimp only [Exit.then, Exit.inBlock]
    refine ret_val (v := (Fl r1)) (res_T rfl (slot rfl)) X14 ?_
    try simp only [h2, h4, h6] at c18
    have x20 : cf .f32 r1 = pickV A_v n_ := by first | (rw [pickV_a (by omega)]; assumption) | (rw [pickV_b (by omega) (by omega)]; assumption) | (rw [pickV_c (by omega) (by omega)]; assumption)
    exact ⟨r1, rfl, x20⟩
  have c18' := c18
  (try simp only [icmp, Bool.and_eq_true, Bool.or_eq_true, Bool.and_eq_false_iff, Bool.or_eq_false_iff, Bool.not_eq_true', Bool.not_eq_false', decide_eq_true_eq, decide_eq_false_iff_not, beq_iff_eq, bne_iff_ne, beq_eq_false_iff_ne, bne_eq_false_iff_eq] at c18')
  refine wp_seq_k fun K21 hK21 => ?_
  refine wp_region_lit ?_
  refine q_is (l' := [(.agg #[(Fl r1), (Fl r3), (Fl r5)]), (Iv n_), (Pt b8 0), Ud, (Fl 0), (Iv n_), (Bo (icmp .eql n_ 0)), (Bo (icmp .eql n_ 0)), Ud, Ud, Ud, (Bo (icmp .eql n_ 1)), Ud, Ud, Ud, Ud]) rfl rfl (does_icmp (p := n_) (q := 1) (.inl rfl) (ev rfl) (ev rfl)) rfl ?_
  refine q_is (l' := [(.agg #[(Fl r1), (Fl r3), (Fl r5)]), (Iv n_), (Pt b8 0), Ud, (Fl 0), (Iv n_), (Bo (icmp .eql n_ 0)), (Bo (icmp .eql n_ 0)), Ud, Ud, (Bo (icmp .eql n_ 1)), (Bo (icmp .eql n_ 1)), Ud, Ud, Ud, Ud]) rfl rfl (does_assign (u := (Bo (icmp .eql n_ 1))) (ev rfl)) rfl ?_
  refine wpList_nil (hK21 _ _ ?_)
  refine wp_cond_split (t := icmp .eql n_ 1) (ev rfl) (fun c22 => ?_) (fun c22 => ?_)
  · have c22' := c22
    (try simp only [icmp, Bool.and_eq_true, Bool.or_eq_true, Bool.and_eq_false_iff, Bool.or_eq_false_iff, Bool.not_eq_true', Bool.not_eq_false', decide_eq_true_eq, decide_eq_false_iff_not, beq_iff_eq, bne_iff_ne, beq_eq_false_iff_ne, bne_eq_false_iff_eq] at c22')
    refine wp_seq_k fun K23 hK23 => ?_
    refine wp_region_lit ?_
    refine q_is (l' := [(.agg #[(Fl r1), (Fl r3), (Fl r5)]), (Iv n_), (Pt b8 0), Ud, (Fl 0), (Iv n_), (Bo (icmp .eql n_ 0)), (Bo (icmp .eql n_ 0)), Ud, Ud, (Bo (icmp .eql n_ 1)), (Bo (icmp .eql n_ 1)), (Pt b8 1), Ud, Ud, Ud]) rfl rfl (does_fieldAddr (ev rfl) fa27_1) rfl ?_
    refine q_is (l' := [(.agg #[(Fl r1), (Fl r3), (Fl r5)]), (Iv n_), (Pt b8 0), Ud, (Fl 0), (Iv n_), (Bo (icmp .eql n_ 0)), (Bo (icmp .eql n_ 0)), Ud, Ud, (Bo (icmp .eql n_ 1)), (Bo (icmp .eql n_ 1)), (Pt b8 1), (Fl r3), Ud, Ud]) rfl rfl (does_load (u := (Fl r3)) (ev rfl) Try.isAgg22 (Cells.at (Blk.cells hB10) 1 rfl)) rfl ?_
    refine q_is (l' := [(.agg #[(Fl r1), (Fl r3), (Fl r5)]), (Iv n_), (Pt b8 0), Ud, (Fl r3), (Iv n_), (Bo (icmp .eql n_ 0)), (Bo (icmp .eql n_ 0)), Ud, Ud, (Bo (icmp .eql n_ 1)), (Bo (icmp .eql n_ 1)), (Pt b8 1), (Fl r3), Ud, Ud]) rfl rfl (does_assign (u := (Fl r3)) (ev rfl)) rfl ?_
    refine wpList_nil (hK23 _ _ ?_)
    refine wp_ret ?_
    dsimp only [Exit.then, Exit.inBlock]
    refine ret_val (v := (Fl r3)) (res_T rfl (slot rfl)) X14 ?_
    try simp only [h2, h4, h6] at c18 c22
    have x24 : cf .f32 r3 = pickV A_v n_ := by first | (rw [pickV_a (by omega)]; assumption) | (rw [pickV_b (by omega) (by omega)]; assumption) | (rw [pickV_c (by omega) (by omega)]; assumption)
    exact ⟨r3, rfl, x24⟩
  have c22' := c22
  (try simp only [icmp, Bool.and_eq_true, Bool.or_eq_true, Bool.and_eq_false_iff, Bool.or_eq_false_iff, Bool.not_eq_true', Bool.not_eq_false', decide_eq_true_eq, decide_eq_false_iff_not, beq_iff_eq, bne_iff_ne, beq_eq_false_iff_ne, bne_eq_false_iff_eq] at c22')
  refine wp_skip (hK15 _ _ ?_)
  refine wp_seq_k fun K25 hK25 => ?_
  refine wp_region_lit ?_
  refine q_is (l' := [(.agg #[(Fl r1), (Fl r3), (Fl r5)]), (Iv n_), (Pt b8 0), Ud, (Fl 0), (Iv n_), (Bo (icmp .eql n_ 0)), (Bo (icmp .eql n_ 0)), Ud, Ud, (Bo (icmp .eql n_ 1)), (Bo (icmp .eql n_ 1)), Ud, Ud, (Pt b8 2), Ud]) rfl rfl (does_fieldAddr (ev rfl) fa27_2) rfl ?_
  refine q_is (l' := [(.agg #[(Fl r1), (Fl r3), (Fl r5)]), (Iv n_), (Pt b8 0), Ud, (Fl 0), (Iv n_), (Bo (icmp .eql n_ 0)), (Bo (icmp .eql n_ 0)), Ud, Ud, (Bo (icmp .eql n_ 1)), (Bo (icmp .eql n_ 1)), Ud, Ud, (Pt b8 2), (Fl r5)]) rfl rfl (does_load (u := (Fl r5)) (ev rfl) Try.isAgg22 (Cells.at (Blk.cells hB10) 2 rfl)) rfl ?_
  refine q_is (l' := [(.agg #[(Fl r1), (Fl r3), (Fl r5)]), (Iv n_), (Pt b8 0), Ud, (Fl r5), (Iv n_), (Bo (icmp .eql n_ 0)), (Bo (icmp .eql n_ 0)), Ud, Ud, (Bo (icmp .eql n_ 1)), (Bo (icmp .eql n_ 1)), Ud, Ud, (Pt b8 2), (Fl r5)]) rfl rfl (does_assign (u := (Fl r5)) (ev rfl)) rfl ?_
  refine wpList_nil (hK25 _ _ ?_)
  refine wp_ret ?_
  refine ret_val (v := (Fl r5)) (res_T rfl (slot rfl)) X14 ?_
  try simp only [h2, h4, h6] at c18 c22
  have x26 : cf .f32 r5 = pickV A_v n_ := by first | (rw [pickV_a (by omega)]; assumption) | (rw [pickV_b (by omega) (by omega)]; assumption) | (rw [pickV_c (by omega) (by omega)]; assumption)
  exact ⟨r5, rfl, x26⟩

/- spec.l02Set -/
theorem c_spec_l02Set (v : List Value) (A_v : V3) (n_ : Int) (c_ : Nat) (w : World) (hv_v : RV3 w A_v v) : Gives Try.prog 17 #[(.agg v.toArray), (Iv n_), (Fl c_)] w (fun v w' => ∃ cs_1 : List Value, v = (.agg cs_1.toArray) ∧ RV3 w (setV A_v n_ (cf .f32 c_)) cs_1) := by
  obtain ⟨r1, r3, r5, rfl, h2, h4, h6⟩ := hv_v
  refine enter [(.agg #[(Fl r1), (Fl r3), (Fl r5)]), (Iv n_), (Fl c_), Ud, Ud, Ud, Ud, Ud, Ud, Ud, Ud, Ud, Ud, Ud, Ud, Ud, Ud, Ud, Ud] Try.func17 rfl Try.ntmps17 rfl ?_
  refine wp_seq_k fun K7 hK7 => ?_
  refine wp_region_lit ?_
  refine seqd rfl rfl (does_box (u := (.agg #[(Fl r1), (Fl r3), (Fl r5)])) (ev rfl)) ?_; rintro _ w12 ⟨b8, rfl, hb9, hB10, E11⟩
  have g13 : w.heap.size ≤ b8 := Nat.le_trans (Below.size (Ext.refl w)) hb9
  change Blk _ _ [(Fl r1), (Fl r3), (Fl r5)] at hB10
  have X14 := Ext.gr (Ext.refl w) E11
  show wpList _ _ _ _ (fr [(.agg #[(Fl r1), (Fl r3), (Fl r5)]), (Iv n_), (Fl c_), (Pt b8 0), Ud, Ud, Ud, Ud, Ud, Ud, Ud, Ud, Ud, Ud, Ud, Ud, Ud, Ud, Ud]) _
  refine seqd rfl rfl (does_alloc z27) ?_; rintro _ w19 ⟨b15, rfl, hb16, hB17, E18⟩
  have n20 : b8 < b15 := Nat.lt_of_lt_of_le (Blk.lt hB10) hb16
  have g21 : w.heap.size ≤ b15 := Nat.le_trans (Below.size X14) hb16
  change Blk _ _ [(Fl 0), (Fl 0), (Fl 0)] at hB17
  have X22 := Ext.gr X14 E18
  show wpList _ _ _ _ (fr [(.agg #[(Fl r1), (Fl r3), (Fl r5)]), (Iv n_), (Fl c_), (Pt b8 0), Ud, Ud, (Pt b15 0), Ud, Ud, Ud, Ud, Ud, Ud, Ud, Ud, Ud, Ud, Ud, Ud]) _
  refine wpList_nil (hK7 _ _ ?_)
  refine wp_seq_k fun K23 hK23 => ?_
  refine wp_seq_k fun K24 hK24 => ?_
  refine wp_region_lit ?_
  refine q_is (l' := [(.agg #[(Fl r1), (Fl r3), (Fl r5)]), (Iv n_), (Fl c_), (Pt b8 0), Ud, Ud, (Pt b15 0), (Iv n_), Ud, Ud, Ud, Ud, Ud, Ud, Ud, Ud, Ud, Ud, Ud]) rfl rfl (does_move (u := (Iv n_)) (ev rfl)) rfl ?_
  refine wpList_nil (hK24 _ _ ?_)
  refine wp_block ?_
  refine wp_seq_k fun K25 hK25 => ?_
  refine wp_region_lit ?_
  refine q_is (l' := [(.agg #[(Fl r1), (Fl r3), (Fl r5)]), (Iv n_), (Fl c_), (Pt b8 0), Ud, Ud, (Pt b15 0), (Iv n_), Ud, Ud, Ud, (Bo (icmp .eql n_ 0)), Ud, Ud, Ud, Ud, Ud, Ud, Ud]) rfl rfl (does_icmp (p := n_) (q := 0) (.inl rfl) (ev rfl) (ev rfl)) rfl ?_
  refine q_is (l' := [(.agg #[(Fl r1), (Fl r3), (Fl r5)]), (Iv n_), (Fl c_), (Pt b8 0), Ud, Ud, (Pt b15 0), (Iv n_), Ud, Ud, (Bo (icmp .eql n_ 0)), (Bo (icmp .eql n_ 0)), Ud, Ud, Ud, Ud, Ud, Ud, Ud]) rfl rfl (does_assign (u := (Bo (icmp .eql n_ 0))) (ev rfl)) rfl ?_
  refine wpList_nil (hK25 _ _ ?_)
  refine wp_cond_split (t := icmp .eql n_ 0) (ev rfl) (fun c26 => ?_) (fun c26 => ?_)
  · have c26' := c26
    (try simp only [icmp, Bool.and_eq_true, Bool.or_eq_true, Bool.and_eq_false_iff, Bool.or_eq_false_iff, Bool.not_eq_true', Bool.not_eq_false', decide_eq_true_eq, decide_eq_false_iff_not, beq_iff_eq, bne_iff_ne, beq_eq_false_iff_ne, bne_eq_false_iff_eq] at c26')
    refine wp_region_lit ?_
    refine q_is (l' := [(.agg #[(Fl r1), (Fl r3), (Fl r5)]), (Iv n_), (Fl c_), (Pt b8 0), Ud, Ud, (Pt b15 0), (Iv n_), Ud, Ud, (Bo (icmp .eql n_ 0)), (Bo (icmp .eql n_ 0)), (Fl c_), Ud, Ud, Ud, Ud, Ud, Ud]) rfl rfl (does_move (u := (Fl c_)) (ev rfl)) rfl ?_
    refine q_is (l' := [(.agg #[(Fl r1), (Fl r3), (Fl r5)]), (Iv n_), (Fl c_), (Pt b8 0), Ud, Ud, (Pt b15 0), (Iv n_), Ud, Ud, (Bo (icmp .eql n_ 0)), (Bo (icmp .eql n_ 0)), (Fl c_), (Pt b8 0), Ud, Ud, Ud, Ud, Ud]) rfl rfl (does_fieldAddr (ev rfl) fa27_0) rfl ?_
    refine seqn rfl rfl (does_store (n := 1) (cs := [(Fl r1), (Fl r3), (Fl r5)]) (u := (Fl c_)) (ev rfl) (ev rfl) Try.sizeOf22 rfl (hB10.ext E18) (Nat.le_of_ble_eq_true rfl) rfl) ?_; rintro _ w29 ⟨rfl, W27, hB28⟩
    change Blk _ _ [(Fl c_), (Fl r3), (Fl r5)] at hB28
    have X30 := Below.wr X22 W27 g13
    refine wpList_nil (hK23 _ _ ?_)
    refine wp_seq_k fun K31 hK31 => ?_
    refine wp_region_lit ?_
    refine q_is (l' := [(.agg #[(Fl r1), (Fl r3), (Fl r5)]), (Iv n_), (Fl c_), (Pt b8 0), Ud, Ud, (Pt b15 0), (Iv n_), Ud, Ud, (Bo (icmp .eql n_ 0)), (Bo (icmp .eql n_ 0)), (Fl c_), (Pt b8 0), Ud, Ud, Ud, Ud, (.agg #[(Fl c_), (Fl r3), (Fl r5)])]) rfl rfl (does_loadAgg (cs := [(Fl c_), (Fl r3), (Fl r5)]) (ev rfl) Try.isAgg27 Try.sizeOf27 (Blk.cells hB28) rfl) rfl ?_
    refine seqn rfl rfl (does_store (n := 3) (cs := [(Fl 0), (Fl 0), (Fl 0)]) (u := (.agg #[(Fl c_), (Fl r3), (Fl r5)])) (ev rfl) (ev rfl) Try.sizeOf27 rfl (hB17.wr W27 (Nat.ne_of_gt n20)) (Nat.le_of_ble_eq_true rfl) rfl) ?_; rintro _ w34 ⟨rfl, W32, hB33⟩
    change Blk _ _ [(Fl c_), (Fl r3), (Fl r5)] at hB33
    have X35 := Below.wr X30 W32 g21
    refine wpList_nil (hK31 _ _ ?_)
    refine wp_ret ?_
    refine ret_val (v := (.agg #[(Fl c_), (Fl r3), (Fl r5)])) (res_C rfl (slot rfl) (run_loadAgg (cs := [(Fl c_), (Fl r3), (Fl r5)]) Try.isAgg27 Try.sizeOf27 (Blk.cells hB33) rfl)) X35 ?_
    try simp only [h2, h4, h6] at c26
    have x36 : cf .f32 c_ = (setV A_v n_ (cf .f32 c_)).x := by first | (rw [setV_a (by omega)] <;> first | rfl | assumption | (simp only [h2, h4, h6, c26]; done)) | (rw [setV_b (by omega) (by omega)] <;> first | rfl | assumption | (simp only [h2, h4, h6, c26]; done)) | (rw [setV_c (by omega) (by omega)] <;> first | rfl | assumption | (simp only [h2, h4, h6, c26]; done))
    have x37 : cf .f32 r3 = (setV A_v n_ (cf .f32 c_)).y := by first | (rw [setV_a (by omega)] <;> first | rfl | assumption | (simp only [h2, h4, h6, c26]; done)) | (rw [setV_b (by omega) (by omega)] <;> first | rfl | assumption | (simp only [h2, h4, h6, c26]; done)) | (rw [setV_c (by omega) (by omega)] <;> first | rfl | assumption | (simp only [h2, h4, h6, c26]; done))
    have x38 : cf .f32 r5 = (setV A_v n_ (cf .f32 c_)).z := by first | (rw [setV_a (by omega)] <;> first | rfl | assumption | (simp only [h2, h4, h6, c26]; done)) | (rw [setV_b (by omega) (by omega)] <;> first | rfl | assumption | (simp only [h2, h4, h6, c26]; done)) | (rw [setV_c (by omega) (by omega)] <;> first | rfl | assumption | (simp only [h2, h4, h6, c26]; done))
    exact ⟨[(Fl c_), (Fl r3), (Fl r5)], rfl, ⟨c_, r3, r5, rfl, x36, x37, x38⟩⟩
  have c26' := c26
  (try simp only [icmp, Bool.and_eq_true, Bool.or_eq_true, Bool.and_eq_false_iff, Bool.or_eq_false_iff, Bool.not_eq_true', Bool.not_eq_false', decide_eq_true_eq, decide_eq_false_iff_not, beq_iff_eq, bne_iff_ne, beq_eq_false_iff_ne, bne_eq_false_iff_eq] at c26')
  refine wp_seq_k fun K39 hK39 => ?_
  refine wp_region_lit ?_
  refine q_is (l' := [(.agg #[(Fl r1), (Fl r3), (Fl r5)]), (Iv n_), (Fl c_), (Pt b8 0), Ud, Ud, (Pt b15 0), (Iv n_), Ud, Ud, (Bo (icmp .eql n_ 0)), (Bo (icmp .eql n_ 0)), Ud, Ud, Ud, (Bo (icmp .eql n_ 1)), Ud, Ud, Ud]) rfl rfl (does_icmp (p := n_) (q := 1) (.inl rfl) (ev rfl) (ev rfl)) rfl ?_
  refine q_is (l' := [(.agg #[(Fl r1), (Fl r3), (Fl r5)]), (Iv n_), (Fl c_), (Pt b8 0), Ud, Ud, (Pt b15 0), (Iv n_), Ud, Ud, (Bo (icmp .eql n_ 0)), (Bo (icmp .eql n_ 0)), Ud, Ud, (Bo (icmp .eql n_ 1)), (Bo (icmp .eql n_ 1)), Ud, Ud, Ud]) rfl rfl (does_assign (u := (Bo (icmp .eql n_ 1))) (ev rfl)) rfl ?_
  refine wpList_nil (hK39 _ _ ?_)
  refine wp_cond_split (t := icmp .eql n_ 1) (ev rfl) (fun c40 => ?_) (fun c40 => ?_)
  · have c40' := c40
    (try simp only [icmp, Bool.and_eq_true, Bool.or_eq_true, Bool.and_eq_false_iff, Bool.or_eq_false_iff, Bool.not_eq_true', Bool.not_eq_false', decide_eq_true_eq, decide_eq_false_iff_not, beq_iff_eq, bne_iff_ne, beq_eq_false_iff_ne, bne_eq_false_iff_eq] at c40')
    refine wp_region_lit ?_
    refine q_is (l' := [(.agg #[(Fl r1), (Fl r3), (Fl r5)]), (Iv n_), (Fl c_), (Pt b8 0), Ud, Ud, (Pt b15 0), (Iv n_), Ud, Ud, (Bo (icmp .eql n_ 0)), (Bo (icmp .eql n_ 0)), Ud, Ud, (Bo (icmp .eql n_ 1)), (Bo (icmp .eql n_ 1)), (Fl c_), Ud, Ud]) rfl rfl (does_move (u := (Fl c_)) (ev rfl)) rfl ?_
    refine q_is (l' := [(.agg #[(Fl r1), (Fl r3), (Fl r5)]), (Iv n_), (Fl c_), (Pt b8 0), Ud, Ud, (Pt b15 0), (Iv n_), Ud, Ud, (Bo (icmp .eql n_ 0)), (Bo (icmp .eql n_ 0)), Ud, Ud, (Bo (icmp .eql n_ 1)), (Bo (icmp .eql n_ 1)), (Fl c_), (Pt b8 1), Ud]) rfl rfl (does_fieldAddr (ev rfl) fa27_1) rfl ?_
    refine seqn rfl rfl (does_store (n := 1) (cs := [(Fl r1), (Fl r3), (Fl r5)]) (u := (Fl c_)) (ev rfl) (ev rfl) Try.sizeOf22 rfl (hB10.ext E18) (Nat.le_of_ble_eq_true rfl) rfl) ?_; rintro _ w43 ⟨rfl, W41, hB42⟩
    change Blk _ _ [(Fl r1), (Fl c_), (Fl r5)] at hB42
    have X44 := Below.wr X22 W41 g13
    refine wpList_nil (hK23 _ _ ?_)
    refine wp_seq_k fun K45 hK45 => ?_
    refine wp_region_lit ?_
    refine q_is (l' := [(.agg #[(Fl r1), (Fl r3), (Fl r5)]), (Iv n_), (Fl c_), (Pt b8 0), Ud, Ud, (Pt b15 0), (Iv n_), Ud, Ud, (Bo (icmp .eql n_ 0)), (Bo (icmp .eql n_ 0)), Ud, Ud, (Bo (icmp .eql n_ 1)), (Bo (icmp .eql n_ 1)), (Fl c_), (Pt b8 1), (.agg #[(Fl r1), (Fl c_), (Fl r5)])]) rfl rfl (does_loadAgg (cs := [(Fl r1), (Fl c_), (Fl r5)]) (ev rfl) Try.isAgg27 Try.sizeOf27 (Blk.cells hB42) rfl) rfl ?_
    refine seqn rfl rfl (does_store (n := 3) (cs := [(Fl 0), (Fl 0), (Fl 0)]) (u := (.agg #[(Fl r1), (Fl c_), (Fl r5)])) (ev rfl) (ev rfl) Try.sizeOf27 rfl (hB17.wr W41 (Nat.ne_of_gt n20)) (Nat.le_of_ble_eq_true rfl) rfl) ?_; rintro _ w48 ⟨rfl, W46, hB47⟩
    change Blk _ _ [(Fl r1), (Fl c_), (Fl r5)] at hB47
    have X49 := Below.wr X44 W46 g21
    refine wpList_nil (hK45 _ _ ?_)
    refine wp_ret ?_
    refine ret_val (v := (.agg #[(Fl r1), (Fl c_), (Fl r5)])) (res_C rfl (slot rfl) (run_loadAgg (cs := [(Fl r1), (Fl c_), (Fl r5)]) Try.isAgg27 Try.sizeOf27 (Blk.cells hB47) rfl)) X49 ?_
    try simp only [h2, h4, h6] at c26 c40
    have x50 : cf .f32 r1 = (setV A_v n_ (cf .f32 c_)).x := by first | (rw [setV_a (by omega)] <;> first | rfl | assumption | (simp only [h2, h4, h6, c26, c40]; done)) | (rw [setV_b (by omega) (by omega)] <;> first | rfl | assumption | (simp only [h2, h4, h6, c26, c40]; done)) | (rw [setV_c (by omega) (by omega)] <;> first | rfl | assumption | (simp only [h2, h4, h6, c26, c40]; done))
    have x51 : cf .f32 c_ = (setV A_v n_ (cf .f32 c_)).y := by first | (rw [setV_a (by omega)] <;> first | rfl | assumption | (simp only [h2, h4, h6, c26, c40]; done)) | (rw [setV_b (by omega) (by omega)] <;> first | rfl | assumption | (simp only [h2, h4, h6, c26, c40]; done)) | (rw [setV_c (by omega) (by omega)] <;> first | rfl | assumption | (simp only [h2, h4, h6, c26, c40]; done))
    have x52 : cf .f32 r5 = (setV A_v n_ (cf .f32 c_)).z := by first | (rw [setV_a (by omega)] <;> first | rfl | assumption | (simp only [h2, h4, h6, c26, c40]; done)) | (rw [setV_b (by omega) (by omega)] <;> first | rfl | assumption | (simp only [h2, h4, h6, c26, c40]; done)) | (rw [setV_c (by omega) (by omega)] <;> first | rfl | assumption | (simp only [h2, h4, h6, c26, c40]; done))
    exact ⟨[(Fl r1), (Fl c_), (Fl r5)], rfl, ⟨r1, c_, r5, rfl, x50, x51, x52⟩⟩
  have c40' := c40
  (try simp only [icmp, Bool.and_eq_true, Bool.or_eq_true, Bool.and_eq_false_iff, Bool.or_eq_false_iff, Bool.not_eq_true', Bool.not_eq_false', decide_eq_true_eq, decide_eq_false_iff_not, beq_iff_eq, bne_iff_ne, beq_eq_false_iff_ne, bne_eq_false_iff_eq] at c40')
  refine wp_region_lit ?_
  refine q_is (l' := [(.agg #[(Fl r1), (Fl r3), (Fl r5)]), (Iv n_), (Fl c_), (Pt b8 0), Ud, Ud, (Pt b15 0), (Iv n_), (Fl c_), Ud, (Bo (icmp .eql n_ 0)), (Bo (icmp .eql n_ 0)), Ud, Ud, (Bo (icmp .eql n_ 1)), (Bo (icmp .eql n_ 1)), Ud, Ud, Ud]) rfl rfl (does_move (u := (Fl c_)) (ev rfl)) rfl ?_
  refine q_is (l' := [(.agg #[(Fl r1), (Fl r3), (Fl r5)]), (Iv n_), (Fl c_), (Pt b8 0), Ud, Ud, (Pt b15 0), (Iv n_), (Fl c_), (Pt b8 2), (Bo (icmp .eql n_ 0)), (Bo (icmp .eql n_ 0)), Ud, Ud, (Bo (icmp .eql n_ 1)), (Bo (icmp .eql n_ 1)), Ud, Ud, Ud]) rfl rfl (does_fieldAddr (ev rfl) fa27_2) rfl ?_
  refine seqn rfl rfl (does_store (n := 1) (cs := [(Fl r1), (Fl r3), (Fl r5)]) (u := (Fl c_)) (ev rfl) (ev rfl) Try.sizeOf22 rfl (hB10.ext E18) (Nat.le_of_ble_eq_true rfl) rfl) ?_; rintro _ w55 ⟨rfl, W53, hB54⟩
  change Blk _ _ [(Fl r1), (Fl r3), (Fl c_)] at hB54
  have X56 := Below.wr X22 W53 g13
  refine wpList_nil (hK23 _ _ ?_)
  refine wp_seq_k fun K57 hK57 => ?_
  refine wp_region_lit ?_
  refine q_is (l' := [(.agg #[(Fl r1), (Fl r3), (Fl r5)]), (Iv n_), (Fl c_), (Pt b8 0), Ud, Ud, (Pt b15 0), (Iv n_), (Fl c_), (Pt b8 2), (Bo (icmp .eql n_ 0)), (Bo (icmp .eql n_ 0)), Ud, Ud, (Bo (icmp .eql n_ 1)), (Bo (icmp .eql n_ 1)), Ud, Ud, (.agg #[(Fl r1), (Fl r3), (Fl c_)])]) rfl rfl (does_loadAgg (cs := [(Fl r1), (Fl r3), (Fl c_)]) (ev rfl) Try.isAgg27 Try.sizeOf27 (Blk.cells hB54) rfl) rfl ?_
  refine seqn rfl rfl (does_store (n := 3) (cs := [(Fl 0), (Fl 0), (Fl 0)]) (u := (.agg #[(Fl r1), (Fl r3), (Fl c_)])) (ev rfl) (ev rfl) Try.sizeOf27 rfl (hB17.wr W53 (Nat.ne_of_gt n20)) (Nat.le_of_ble_eq_true rfl) rfl) ?_; rintro _ w60 ⟨rfl, W58, hB59⟩
  change Blk _ _ [(Fl r1), (Fl r3), (Fl c_)] at hB59
  have X61 := Below.wr X56 W58 g21
  refine wpList_nil (hK57 _ _ ?_)
  refine wp_ret ?_
  refine ret_val (v := (.agg #[(Fl r1), (Fl r3), (Fl c_)])) (res_C rfl (slot rfl) (run_loadAgg (cs := [(Fl r1), (Fl r3), (Fl c_)]) Try.isAgg27 Try.sizeOf27 (Blk.cells hB59) rfl)) X61 ?_
  try simp only [h2, h4, h6] at c26 c40
  have x62 : cf .f32 r1 = (setV A_v n_ (cf .f32 c_)).x := by first | (rw [setV_a (by omega)] <;> first | rfl | assumption | (simp only [h2, h4, h6, c26, c40]; done)) | (rw [setV_b (by omega) (by omega)] <;> first | rfl | assumption | (simp only [h2, h4, h6, c26, c40]; done)) | (rw [setV_c (by omega) (by omega)] <;> first | rfl | assumption | (simp only [h2, h4, h6, c26, c40]; done))
  have x63 : cf .f32 r3 = (setV A_v n_ (cf .f32 c_)).y := by first | (rw [setV_a (by omega)] <;> first | rfl | assumption | (simp only [h2, h4, h6, c26, c40]; done)) | (rw [setV_b (by omega) (by omega)] <;> first | rfl | assumption | (simp only [h2, h4, h6, c26, c40]; done)) | (rw [setV_c (by omega) (by omega)] <;> first | rfl | assumption | (simp only [h2, h4, h6, c26, c40]; done))
  have x64 : cf .f32 c_ = (setV A_v n_ (cf .f32 c_)).z := by first | (rw [setV_a (by omega)] <;> first | rfl | assumption | (simp only [h2, h4, h6, c26, c40]; done)) | (rw [setV_b (by omega) (by omega)] <;> first | rfl | assumption | (simp only [h2, h4, h6, c26, c40]; done)) | (rw [setV_c (by omega) (by omega)] <;> first | rfl | assumption | (simp only [h2, h4, h6, c26, c40]; done))
  exact ⟨[(Fl r1), (Fl r3), (Fl c_)], rfl, ⟨r1, r3, c_, rfl, x62, x63, x64⟩⟩

end Go.Proofs.Ythffielpjjggeaa
