/- contracts of functions, each walked once -/
import Derived.Test.YtjopopmipdakkaaA7
import Derived.Test.YtjopopmipdakkaaA9
namespace Go.Proofs.Ytjopopmipdakkaa
open Go Go.RowKit
set_option maxRecDepth 100000
set_option maxHeartbeats 3200000
set_option linter.unusedVariables false
set_option linter.unusedSimpArgs false

/- laws.szFloat32S -/
theorem c_laws_szFloat32S (a : Value) (L_a : List Nat) (left : Int) (w : World) (hv_a : Sl RF 1 w a L_a) (hle : left ≤ 1048576) (hge : 0 ≤ left) : Gives Try.prog 13 #[a, (Iv left)] w (fun v w' => ∃ i_1 : Int, v = (Iv i_1) ∧ (i_1 < 0 ∨ ((L_a.length : Int) ≤ left ∧ i_1 = left - L_a.length ∧ 0 ≤ i_1))) := by
  have hlen_a := Sl.len hv_a; obtain ⟨p_a, q_a, rfl⟩ := Sl.shape hv_a
  refine enter [(.slice p_a L_a.length q_a), (Iv left), Ud, Ud, Ud, Ud, Ud, Ud, Ud, Ud, Ud, Ud] Try.func13 rfl Try.ntmps13 rfl ?_
  refine wr fun _ K1 => ?_
  refine ja (Iv 0) ?_
  refine wn K1 ?_
  refine wr fun _ K2 => ?_
  refine jm (Iv left) ?_
  refine jm (.slice p_a L_a.length q_a) ?_
  refine jj (does_len_slice Try.underlying25 (ev rfl)) ?_
  refine jj (does_iarith (p := left) (q := (L_a.length : Int)) (r := left - (L_a.length : Int)) (ev rfl) (ev rfl) (.inr (.inl ⟨rfl, (in_i64 (by omega) (by omega)).symm⟩))) ?_
  refine ja (Iv (left - (L_a.length : Int))) ?_
  refine wn K2 ?_
  refine ws fun _ K3 => ?_
  refine wr fun _ K4 => ?_
  refine jm (Iv (left - (L_a.length : Int))) ?_
  refine jj (does_icmp (p := left - (L_a.length : Int)) (q := 0) (.inr (.inr (.inl rfl))) (ev rfl) (ev rfl)) ?_
  refine wn K4 ?_
  refine wp_cond_split (t := icmp .lss (left - (L_a.length : Int)) 0) (ev rfl) (fun c5 => ?_) (fun c5 => ?_)
  · have c5' := c5
    (try simp only [icmp, bs] at c5')
    refine wr fun _ K6 => ?_
    refine ja (Iv (-1)) ?_
    refine wn K6 ?_
    refine wp_ret ?_
    dsimp only [Exit.then, Exit.inBlock]
    refine ret_val (v := (Iv (-1))) (res_T rfl (slot rfl)) (Ext.refl w) ?_
    have x7 : (-1) < 0 ∨ ((L_a.length : Int) ≤ left ∧ (-1) = left - L_a.length ∧ 0 ≤ (-1)) := by omega
    exact ⟨(-1), rfl, x7⟩
  have c5' := c5
  (try simp only [icmp, bs] at c5')
  refine wp_skip (K3 _ _ ?_)
  refine wr fun _ K8 => ?_
  refine jm (Iv (left - (L_a.length : Int))) ?_
  refine ja (Iv (left - (L_a.length : Int))) ?_
  refine wn K8 ?_
  refine wp_ret ?_
  refine ret_val (v := (Iv (left - (L_a.length : Int)))) (res_T rfl (slot rfl)) (Ext.refl w) ?_
  have x9 : (left - (L_a.length : Int)) < 0 ∨ ((L_a.length : Int) ≤ left ∧ (left - (L_a.length : Int)) = left - L_a.length ∧ 0 ≤ (left - (L_a.length : Int))) := by omega
  exact ⟨(left - (L_a.length : Int)), rfl, x9⟩

/- laws.szGrid -/
theorem c_laws_szGrid (a : List Value) (A_a : GridT) (left : Int) (w : World) (hv_a : RGridT w A_a a) (hle : left ≤ 1048576) (hge : 0 ≤ left) : Gives Try.prog 4 #[(.agg a.toArray), (Iv left)] w (fun v w' => ∃ i_1 : Int, v = (Iv i_1) ∧ (i_1 < 0 ∨ ((A_a.vals.length : Int) ≤ left ∧ i_1 = left - A_a.vals.length ∧ 0 ≤ i_1))) := by
  obtain ⟨r1, r3, r5, r7, y9, rfl, h2, h4, h6, h8, h10⟩ := hv_a
  have hs13 := h10; have hs13l := Sl.len h10; obtain ⟨p11, q12, rfl⟩ := Sl.shape h10
  refine enter [(.agg #[(Fl r1), (Fl r3), (Fl r5), (Fl r7), (Iv A_a.x), (Iv A_a.y), (Iv A_a.z), (.slice p11 A_a.vals.length q12)]), (Iv left), Ud, Ud, Ud, Ud, Ud, Ud, Ud, Ud, Ud, Ud] Try.func4 rfl Try.ntmps4 rfl ?_
  refine wr fun _ K14 => ?_
  refine sd (does_box (u := (.agg #[(Fl r1), (Fl r3), (Fl r5), (Fl r7), (Iv A_a.x), (Iv A_a.y), (Iv A_a.z), (.slice p11 A_a.vals.length q12)])) (ev rfl)) ?_; rintro _ w19 ⟨b15, rfl, hb16, hB17, E18⟩
  change Blk _ _ [(Fl r1), (Fl r3), (Fl r5), (Fl r7), (Iv A_a.x), (Iv A_a.y), (Iv A_a.z), (.slice p11 A_a.vals.length q12)] at hB17
  have X21 := Ext.gr (Ext.refl w) E18
  refine fz ?_
  refine ja (Iv 0) ?_
  refine wn K14 ?_
  refine wr fun _ K22 => ?_
  refine jj (does_fieldAddr (ev rfl) fa27_5) ?_
  refine jj (does_load (u := (.slice p11 A_a.vals.length q12)) (ev rfl) Try.isAgg25 (Cells.at (Blk.cells hB17) 7 rfl)) ?_
  refine jm (Iv left) ?_
  refine sd (does_call (args := #[(.slice p11 A_a.vals.length q12), (Iv left)]) cal13 (evs rfl) (c_laws_szFloat32S (.slice p11 A_a.vals.length q12) A_a.vals left _ (Sl.ext hs13 RF.mono X21) (by omega) (by omega))) ?_; rintro _ w24 ⟨E23, ⟨i25, rfl, h26⟩⟩
  have X27 := Ext.gr X21 E23
  refine fz ?_
  refine ja (Iv i25) ?_
  refine wn K22 ?_
  refine ws fun _ K28 => ?_
  refine wr fun _ K29 => ?_
  refine jm (Iv i25) ?_
  refine jj (does_icmp (p := i25) (q := 0) (.inr (.inr (.inl rfl))) (ev rfl) (ev rfl)) ?_
  refine wn K29 ?_
  refine wp_cond_split (t := icmp .lss i25 0) (ev rfl) (fun c30 => ?_) (fun c30 => ?_)
  · have c30' := c30
    (try simp only [icmp, bs] at c30')
    refine wr fun _ K31 => ?_
    refine ja (Iv (-1)) ?_
    refine wn K31 ?_
    refine wp_ret ?_
    dsimp only [Exit.then, Exit.inBlock]
    refine ret_val (v := (Iv (-1))) (res_T rfl (slot rfl)) X27 ?_
    try simp only [h2, h4, h6, h8] at c30
    have x32 : (-1) < 0 ∨ ((A_a.vals.length : Int) ≤ left ∧ (-1) = left - A_a.vals.length ∧ 0 ≤ (-1)) := by omega
    exact ⟨(-1), rfl, x32⟩
  have c30' := c30
  (try simp only [icmp, bs] at c30')
  refine wp_skip (K28 _ _ ?_)
  refine wr fun _ K33 => ?_
  refine jm (Iv i25) ?_
  refine ja (Iv i25) ?_
  refine wn K33 ?_
  refine wp_ret ?_
  refine ret_val (v := (Iv i25)) (res_T rfl (slot rfl)) X27 ?_
  try simp only [h2, h4, h6, h8] at c30
  have x34 : i25 < 0 ∨ ((A_a.vals.length : Int) ≤ left ∧ i25 = left - A_a.vals.length ∧ 0 ≤ i25) := by omega
  exact ⟨i25, rfl, x34⟩

/- spec.l01Finite -/
theorem c_spec_l01Finite (x : Nat) (w : World) : Gives Try.prog 32 #[(Fl x)] w (fun v w' => v = (Bo (finF (cf .f32 x)))) := by
  refine enter [(Fl x), Ud, Ud, Ud, Ud, Ud, Ud] Try.func32 rfl Try.ntmps32 rfl ?_
  refine wr fun _ K1 => ?_
  refine ja (Bo false) ?_
  refine wn K1 ?_
  refine wr fun _ K2 => ?_
  refine jm (Fl x) ?_
  refine jm (Fl x) ?_
  refine sd (does_float (.inr (.inl rfl)) (ev rfl) (ev rfl)) ?_; rintro _ w6 ⟨r3, rfl, h4, E5⟩
  have X7 := Ext.gr (Ext.refl w) E5
  refine fz ?_
  refine jj (does_fcmp (.inl rfl) (ev rfl) (ev rfl)) ?_
  refine ja (Bo (fcmp .eql (ford .f32 (cf .f32 r3) (cf .f32 0)))) ?_
  refine wn K2 ?_
  refine wp_ret ?_
  refine ret_val (v := (Bo (fcmp .eql (ford .f32 (cf .f32 r3) (cf .f32 0))))) (res_T rfl (slot rfl)) X7 ?_
  have x8 : (finF (cf .f32 x)) = (fcmp .eql (ford .f32 (cf .f32 r3) (cf .f32 0))) := by first | with_reducible rfl | (simp only [finF, h4]; done) | (simp [finF, h4]; done) | rfl
  exact (by first | with_reducible rfl | rw [x8] | rfl)

/- spec.l01VFinite -/
theorem c_spec_l01VFinite (v : List Value) (A_v : V3) (w : World) (hv_v : RV3 w A_v v) : Gives Try.prog 31 #[(.agg v.toArray)] w (fun v w' => v = (Bo (finV A_v))) := by
  obtain ⟨r1, r3, r5, rfl, h2, h4, h6⟩ := hv_v
  refine enter [(.agg #[(Fl r1), (Fl r3), (Fl r5)]), Ud, Ud, Ud, Ud, Ud, Ud, Ud, Ud, Ud, Ud, Ud, Ud, Ud, Ud, Ud] Try.func31 rfl Try.ntmps31 rfl ?_
  refine wr fun _ K7 => ?_
  refine sd (does_box (u := (.agg #[(Fl r1), (Fl r3), (Fl r5)])) (ev rfl)) ?_; rintro _ w12 ⟨b8, rfl, hb9, hB10, E11⟩
  change Blk _ _ [(Fl r1), (Fl r3), (Fl r5)] at hB10
  have X14 := Ext.gr (Ext.refl w) E11
  refine fz ?_
  refine ja (Bo false) ?_
  refine wn K7 ?_
  refine ws fun _ K15 => ?_
  obtain ⟨β1, hβ1⟩ : ∃ b : Bool, b = ((finF (cf .f32 r1)) && (finF (cf .f32 r3))) := ⟨_, rfl⟩
  obtain ⟨β2, hβ2⟩ : ∃ b : Bool, b = (β1 && (finF (cf .f32 r5))) := ⟨_, rfl⟩
  refine region_text (
    [Fact.pure [] (fun v => v = (Pt b8 0)),
    Fact.pure [3] (fun v => v = (Fl r1)),
    Fact.pure [4] (fun v => v = (Bo (finF (cf .f32 r1)))),
    Fact.pure [5] (fun v => v = (Bo (finF (cf .f32 r1)))),
    Fact.pure [6] (fun v => (finF (cf .f32 r1)) = true → v = (Pt b8 1)),
    Fact.pure [7, 6] (fun v => (finF (cf .f32 r1)) = true → v = (Fl r3)),
    Fact.pure [8, 6] (fun v => (finF (cf .f32 r1)) = true → v = (Bo (finF (cf .f32 r3)))),
    Fact.pure [6, 9] (fun v => v = (Bo β1)),
    Fact.pure [10] (fun v => v = (Bo β1)),
    Fact.pure [11] (fun v => β1 = true → v = (Pt b8 2)),
    Fact.pure [12, 11] (fun v => β1 = true → v = (Fl r5)),
    Fact.pure [13, 11] (fun v => β1 = true → v = (Bo (finF (cf .f32 r5)))),
    Fact.pure [11, 14] (fun v => v = (Bo β2))]) (by simp [Fact.pure, Fact.mem]) ?_
  refine R_p (fun u hu _ => does_fieldAddr (ev rfl) fa35_0) fun v16 => ?_
  refine R_p (fun u hu hF => ?_) fun v17 => ?_
  · have h3_ : v16 = (Pt b8 0) := hF.1
    clear hF; subst h3_
    exact does_load (u := (Fl r1)) (ev rfl) Try.isAgg22 (Cells.at (Blk.cells (hB10.ext hu)) 0 rfl)
  refine R_d (fun u hu hF => ?_) (fun v18 => ?_)
  · have h4_ : v17 = (Fl r1) := hF.1
    clear hF
    refine doesG_un rfl ?_
    obtain rfl := h4_
    refine (does_call (args := #[(Fl r1)]) cal32 (evs rfl) (c_spec_l01Finite r1 _)).mono ?_; rintro v u' ⟨hx, hv⟩
    exact ⟨hv, hx⟩
  refine R_p (fun u hu hF => ?_) fun v19 => ?_
  · have h5_ : v18 = (Bo (finF (cf .f32 r1))) := hF.1
    clear hF; subst h5_
    exact does_move (u := (Bo (finF (cf .f32 r1)))) (ev rfl)
  refine R_d (fun u hu hF => ?_) (fun v20 => ?_)
  · have h6_ : v19 = (Bo (finF (cf .f32 r1))) := hF.1
    clear hF
    obtain rfl := h6_
    refine doesG_g (b := (finF (cf .f32 r1))) rfl (yld rfl rfl) (fun hg1 => ?_) (fun hc => ⟨fun hg1 => absurd hg1 hc, Ext.refl _⟩)
    refine (does_fieldAddr (ev rfl) fa35_1).mono ?_; rintro _ _ ⟨rfl, rfl⟩
    exact ⟨fun _ => rfl, Ext.refl _⟩
  refine R_d (fun u hu hF => ?_) (fun v21 => ?_)
  · have h7_ : (finF (cf .f32 r1)) = true → v20 = (Pt b8 1) := hF.1
    have h6_ : v19 = (Bo (finF (cf .f32 r1))) := hF.2.1
    clear hF
    obtain rfl := h6_
    refine doesG_g (b := (finF (cf .f32 r1))) rfl (yld rfl rfl) (fun hg1 => ?_) (fun hc => ⟨fun hg1 => absurd hg1 hc, Ext.refl _⟩)
    obtain rfl := h7_ hg1
    refine (does_load (u := (Fl r3)) (ev rfl) Try.isAgg22 (Cells.at (Blk.cells (hB10.ext hu)) 1 rfl)).mono ?_; rintro _ _ ⟨rfl, rfl⟩
    exact ⟨fun _ => rfl, Ext.refl _⟩
  refine R_d (fun u hu hF => ?_) (fun v22 => ?_)
  · have h8_ : (finF (cf .f32 r1)) = true → v21 = (Fl r3) := hF.1
    have h6_ : v19 = (Bo (finF (cf .f32 r1))) := hF.2.1
    clear hF
    obtain rfl := h6_
    refine doesG_g (b := (finF (cf .f32 r1))) rfl (yld rfl rfl) (fun hg1 => ?_) (fun hc => ⟨fun hg1 => absurd hg1 hc, Ext.refl _⟩)
    obtain rfl := h8_ hg1
    refine (does_call (args := #[(Fl r3)]) cal32 (evs rfl) (c_spec_l01Finite r3 _)).mono ?_; rintro v u' ⟨hx, hv⟩
    exact ⟨fun _ => hv, hx⟩
  refine R_d (fun u hu hF => ?_) (fun v23 => ?_)
  · have h6_ : v19 = (Bo (finF (cf .f32 r1))) := hF.1
    have h9_ : (finF (cf .f32 r1)) = true → v22 = (Bo (finF (cf .f32 r3))) := hF.2.1
    clear hF
    refine doesG_un rfl ?_
    skip
    obtain rfl := h6_
    refine (does_pick (b := (finF (cf .f32 r1))) (u := v22) (v := (Bo false)) (ev rfl) (ev rfl) (ev rfl)).mono ?_; rintro _ _ ⟨rfl, rfl⟩; refine ⟨?_, Ext.refl _⟩; rw [hβ1]; skip
    cases hbb : (finF (cf .f32 r1))
    all_goals first | (show _ = _; simp only [↓reduceIte, Bool.true_and, Bool.false_and, Bool.true_or, Bool.false_or, Bool.false_eq_true]; done) | (have e_ := h9_ hbb; subst e_; show _ = _; simp only [↓reduceIte, Bool.true_and, Bool.false_and, Bool.true_or, Bool.false_or, Bool.false_eq_true]; done) | rfl | (have e_ := h9_ hbb; subst e_; rfl) | (simp [hbb] at h9_ ⊢; first | done | rfl | (subst h9_; rfl) | simp_all) | (simp [hbb] at h9_ ⊢; done)
  refine R_p (fun u hu hF => ?_) fun v24 => ?_
  · have h10_ : v23 = (Bo β1) := hF.1
    clear hF; subst h10_
    exact does_move (u := (Bo β1)) (ev rfl)
  refine R_d (fun u hu hF => ?_) (fun v25 => ?_)
  · have h11_ : v24 = (Bo β1) := hF.1
    clear hF
    obtain rfl := h11_
    refine doesG_g (b := β1) rfl (yld rfl rfl) (fun hg1 => ?_) (fun hc => ⟨fun hg1 => absurd hg1 hc, Ext.refl _⟩)
    refine (does_fieldAddr (ev rfl) fa35_2).mono ?_; rintro _ _ ⟨rfl, rfl⟩
    exact ⟨fun _ => rfl, Ext.refl _⟩
  refine R_d (fun u hu hF => ?_) (fun v26 => ?_)
  · have h12_ : β1 = true → v25 = (Pt b8 2) := hF.1
    have h11_ : v24 = (Bo β1) := hF.2.1
    clear hF
    obtain rfl := h11_
    refine doesG_g (b := β1) rfl (yld rfl rfl) (fun hg1 => ?_) (fun hc => ⟨fun hg1 => absurd hg1 hc, Ext.refl _⟩)
    obtain rfl := h12_ hg1
    refine (does_load (u := (Fl r5)) (ev rfl) Try.isAgg22 (Cells.at (Blk.cells (hB10.ext hu)) 2 rfl)).mono ?_; rintro _ _ ⟨rfl, rfl⟩
    exact ⟨fun _ => rfl, Ext.refl _⟩
  refine R_d (fun u hu hF => ?_) (fun v27 => ?_)
  · have h13_ : β1 = true → v26 = (Fl r5) := hF.1
    have h11_ : v24 = (Bo β1) := hF.2.1
    clear hF
    obtain rfl := h11_
    refine doesG_g (b := β1) rfl (yld rfl rfl) (fun hg1 => ?_) (fun hc => ⟨fun hg1 => absurd hg1 hc, Ext.refl _⟩)
    obtain rfl := h13_ hg1
    refine (does_call (args := #[(Fl r5)]) cal32 (evs rfl) (c_spec_l01Finite r5 _)).mono ?_; rintro v u' ⟨hx, hv⟩
    exact ⟨fun _ => hv, hx⟩
  refine R_d (fun u hu hF => ?_) (fun v28 => ?_)
  · have h11_ : v24 = (Bo β1) := hF.1
    have h14_ : β1 = true → v27 = (Bo (finF (cf .f32 r5))) := hF.2.1
    clear hF
    refine doesG_un rfl ?_
    skip
    obtain rfl := h11_
    refine (does_pick (b := β1) (u := v27) (v := (Bo false)) (ev rfl) (ev rfl) (ev rfl)).mono ?_; rintro _ _ ⟨rfl, rfl⟩; refine ⟨?_, Ext.refl _⟩; rw [hβ2]; skip
    cases hbb : β1
    all_goals first | (show _ = _; simp only [↓reduceIte, Bool.true_and, Bool.false_and, Bool.true_or, Bool.false_or, Bool.false_eq_true]; done) | (have e_ := h14_ hbb; subst e_; show _ = _; simp only [↓reduceIte, Bool.true_and, Bool.false_and, Bool.true_or, Bool.false_or, Bool.false_eq_true]; done) | rfl | (have e_ := h14_ hbb; subst e_; rfl) | (simp [hbb] at h14_ ⊢; first | done | rfl | (subst h14_; rfl) | simp_all) | (simp [hbb] at h14_ ⊢; done)
  refine RW_fin ?_; intro w29 E30 hP31
  obtain ⟨⟨⟨⟨⟨⟨⟨⟨⟨⟨⟨⟨⟨-, -⟩, -⟩, -⟩, -⟩, -⟩, -⟩, -⟩, -⟩, -⟩, -⟩, -⟩, -⟩, q32⟩ := hP31
  have X33 := Ext.gr X14 E30
  have q32 : v28 = (Bo β2) := q32
  obtain rfl := q32
  refine fz ?_
  refine ja (Bo β2) ?_
  refine wn K15 ?_
  refine wp_ret ?_
  refine ret_val (v := (Bo β2)) (res_T rfl (slot rfl)) X33 ?_
  have x34 : (finV A_v) = β2 := by first | with_reducible rfl | (simp only [finV, h2, h4, h6, hβ1, hβ2]; done) | (simp [finV, h2, h4, h6, hβ1, hβ2]; done) | rfl
  exact (by first | with_reducible rfl | rw [x34] | rfl)

/- spec.l00In -/
theorem c_spec_l00In (n : Int) (low : Int) (high : Int) (w : World) : Gives Try.prog 47 #[(Iv n), (Iv low), (Iv high)] w (fun v w' => v = (Bo (inI n low high))) := by
  refine enter [(Iv n), (Iv low), (Iv high), Ud, Ud, Ud, Ud, Ud, Ud, Ud, Ud, Ud, Ud, Ud, Ud] Try.func47 rfl Try.ntmps47 rfl ?_
  refine wr fun _ K1 => ?_
  refine ja (Bo false) ?_
  refine wn K1 ?_
  refine ws fun _ K2 => ?_
  obtain ⟨β1, hβ1⟩ : ∃ b : Bool, b = ((icmp .geq n low) && (icmp .leq n high)) := ⟨_, rfl⟩
  refine region_text (
    [Fact.pure [] (fun v => v = (Iv n)),
    Fact.pure [] (fun v => v = (Iv low)),
    Fact.pure [7, 8] (fun v => v = (Bo (icmp .geq n low))),
    Fact.pure [9] (fun v => v = (Bo (icmp .geq n low))),
    Fact.pure [10] (fun v => (icmp .geq n low) = true → v = (Iv n)),
    Fact.pure [10] (fun v => (icmp .geq n low) = true → v = (Iv high)),
    Fact.pure [11, 12, 10] (fun v => (icmp .geq n low) = true → v = (Bo (icmp .leq n high))),
    Fact.pure [10, 13] (fun v => v = (Bo β1))]) (by simp [Fact.pure, Fact.mem]) ?_
  refine R_p (fun u hu _ => does_move (u := (Iv n)) (ev rfl)) fun v3 => ?_
  refine R_p (fun u hu _ => does_move (u := (Iv low)) (ev rfl)) fun v4 => ?_
  refine R_p (fun u hu hF => ?_) fun v5 => ?_
  · have h7_ : v3 = (Iv n) := hF.1
    have h8_ : v4 = (Iv low) := hF.2.1
    clear hF; subst h7_ h8_
    exact does_icmp (p := n) (q := low) (.inr (.inr (.inr (.inr (.inr rfl))))) (ev rfl) (ev rfl)
  refine R_p (fun u hu hF => ?_) fun v6 => ?_
  · have h9_ : v5 = (Bo (icmp .geq n low)) := hF.1
    clear hF; subst h9_
    exact does_move (u := (Bo (icmp .geq n low))) (ev rfl)
  refine R_d (fun u hu hF => ?_) (fun v7 => ?_)
  · have h10_ : v6 = (Bo (icmp .geq n low)) := hF.1
    clear hF
    obtain rfl := h10_
    refine doesG_g (b := (icmp .geq n low)) rfl (yld rfl rfl) (fun hg1 => ?_) (fun hc => ⟨fun hg1 => absurd hg1 hc, Ext.refl _⟩)
    refine (does_move (u := (Iv n)) (ev rfl)).mono ?_; rintro _ _ ⟨rfl, rfl⟩
    exact ⟨fun _ => rfl, Ext.refl _⟩
  refine R_d (fun u hu hF => ?_) (fun v8 => ?_)
  · have h10_ : v6 = (Bo (icmp .geq n low)) := hF.1
    clear hF
    obtain rfl := h10_
    refine doesG_g (b := (icmp .geq n low)) rfl (yld rfl rfl) (fun hg1 => ?_) (fun hc => ⟨fun hg1 => absurd hg1 hc, Ext.refl _⟩)
    refine (does_move (u := (Iv high)) (ev rfl)).mono ?_; rintro _ _ ⟨rfl, rfl⟩
    exact ⟨fun _ => rfl, Ext.refl _⟩
  refine R_d (fun u hu hF => ?_) (fun v9 => ?_)
  · have h11_ : (icmp .geq n low) = true → v7 = (Iv n) := hF.1
    have h12_ : (icmp .geq n low) = true → v8 = (Iv high) := hF.2.1
    have h10_ : v6 = (Bo (icmp .geq n low)) := hF.2.2.1
    clear hF
    obtain rfl := h10_
    refine doesG_g (b := (icmp .geq n low)) rfl (yld rfl rfl) (fun hg1 => ?_) (fun hc => ⟨fun hg1 => absurd hg1 hc, Ext.refl _⟩)
    obtain rfl := h11_ hg1
    obtain rfl := h12_ hg1
    refine (does_icmp (p := n) (q := high) (.inr (.inr (.inr (.inl rfl)))) (ev rfl) (ev rfl)).mono ?_; rintro _ _ ⟨rfl, rfl⟩
    exact ⟨fun _ => rfl, Ext.refl _⟩
  refine R_d (fun u hu hF => ?_) (fun v10 => ?_)
  · have h10_ : v6 = (Bo (icmp .geq n low)) := hF.1
    have h13_ : (icmp .geq n low) = true → v9 = (Bo (icmp .leq n high)) := hF.2.1
    clear hF
    refine doesG_un rfl ?_
    skip
    obtain rfl := h10_
    refine (does_pick (b := (icmp .geq n low)) (u := v9) (v := (Bo false)) (ev rfl) (ev rfl) (ev rfl)).mono ?_; rintro _ _ ⟨rfl, rfl⟩; refine ⟨?_, Ext.refl _⟩; rw [hβ1]; skip
    cases hbb : (icmp .geq n low)
    all_goals first | (show _ = _; simp only [↓reduceIte, Bool.true_and, Bool.false_and, Bool.true_or, Bool.false_or, Bool.false_eq_true]; done) | (have e_ := h13_ hbb; subst e_; show _ = _; simp only [↓reduceIte, Bool.true_and, Bool.false_and, Bool.true_or, Bool.false_or, Bool.false_eq_true]; done) | rfl | (have e_ := h13_ hbb; subst e_; rfl) | (simp [hbb] at h13_ ⊢; first | done | rfl | (subst h13_; rfl) | simp_all) | (simp [hbb] at h13_ ⊢; done)
  refine RW_fin ?_; intro w11 E12 hP13
  obtain ⟨⟨⟨⟨⟨⟨⟨⟨-, -⟩, -⟩, -⟩, -⟩, -⟩, -⟩, -⟩, q14⟩ := hP13
  have X15 := Ext.gr (Ext.refl w) E12
  have q14 : v10 = (Bo β1) := q14
  obtain rfl := q14
  refine fz ?_
  refine ja (Bo β1) ?_
  refine wn K2 ?_
  refine wp_ret ?_
  refine ret_val (v := (Bo β1)) (res_T rfl (slot rfl)) X15 ?_
  have x16 : (inI n low high) = β1 := by first | with_reducible rfl | (simp only [inI, hβ1]; done) | (simp [inI, hβ1]; done) | rfl
  exact (by first | with_reducible rfl | rw [x16] | rfl)

/- spec.l06Counts -/
theorem c_spec_l06Counts (x : Int) (y : Int) (z : Int) (w : World) : Gives Try.prog 33 #[(Iv x), (Iv y), (Iv z)] w (fun v w' => v = (Bo (cntOk x y z))) := by
  refine enter [(Iv x), (Iv y), (Iv z), Ud, Ud, Ud, Ud, Ud, Ud, Ud, Ud, Ud, Ud, Ud, Ud, Ud, Ud, Ud, Ud, Ud, Ud, Ud, Ud, Ud, Ud] Try.func33 rfl Try.ntmps33 rfl ?_
  refine wr fun _ K1 => ?_
  refine ja (Bo false) ?_
  refine wn K1 ?_
  refine ws fun _ K2 => ?_
  obtain ⟨β1, hβ1⟩ : ∃ b : Bool, b = ((inI x 1 16) && (inI y 1 16)) := ⟨_, rfl⟩
  obtain ⟨β2, hβ2⟩ : ∃ b : Bool, b = (icmp .leq (IntKind.i64.wrap ((IntKind.i64.wrap (x * y)) * z)) 1024) := ⟨_, rfl⟩
  obtain ⟨β3, hβ3⟩ : ∃ b : Bool, b = ((β1 && (inI z 1 16)) && β2) := ⟨_, rfl⟩
  refine region_text (
    [Fact.pure [] (fun v => v = (Iv x)),
    Fact.pure [7] (fun v => v = (Bo (inI x 1 16))),
    Fact.pure [8] (fun v => v = (Bo (inI x 1 16))),
    Fact.pure [9] (fun v => (inI x 1 16) = true → v = (Iv y)),
    Fact.pure [10, 9] (fun v => (inI x 1 16) = true → v = (Bo (inI y 1 16))),
    Fact.pure [9, 11] (fun v => v = (Bo β1)),
    Fact.pure [12] (fun v => v = (Bo β1)),
    Fact.pure [13] (fun v => β1 = true → v = (Iv z)),
    Fact.pure [14, 13] (fun v => β1 = true → v = (Bo (inI z 1 16))),
    Fact.pure [13, 15] (fun v => v = (Bo (β1 && (inI z 1 16)))),
    Fact.pure [16] (fun v => v = (Bo (β1 && (inI z 1 16)))),
    Fact.pure [17] (fun v => (β1 && (inI z 1 16)) = true → v = (Iv x)),
    Fact.pure [17] (fun v => (β1 && (inI z 1 16)) = true → v = (Iv y)),
    Fact.pure [18, 19, 17] (fun v => (β1 && (inI z 1 16)) = true → v = (Iv (IntKind.i64.wrap (x * y)))),
    Fact.pure [17] (fun v => (β1 && (inI z 1 16)) = true → v = (Iv z)),
    Fact.pure [20, 21, 17] (fun v => (β1 && (inI z 1 16)) = true → v = (Iv (IntKind.i64.wrap ((IntKind.i64.wrap (x * y)) * z)))),
    Fact.pure [22, 17] (fun v => (β1 && (inI z 1 16)) = true → v = (Bo β2)),
    Fact.pure [17, 23] (fun v => v = (Bo β3))]) (by simp [Fact.pure, Fact.mem]) ?_
  refine R_p (fun u hu _ => does_move (u := (Iv x)) (ev rfl)) fun v3 => ?_
  refine R_d (fun u hu hF => ?_) (fun v4 => ?_)
  · have h7_ : v3 = (Iv x) := hF.1
    clear hF
    refine doesG_un rfl ?_
    obtain rfl := h7_
    refine (does_call (args := #[(Iv x), (Iv 1), (Iv 16)]) cal47 (evs rfl) (c_spec_l00In x 1 16 _)).mono ?_; rintro v u' ⟨hx, hv⟩
    exact ⟨hv, hx⟩
  refine R_p (fun u hu hF => ?_) fun v5 => ?_
  · have h8_ : v4 = (Bo (inI x 1 16)) := hF.1
    clear hF; subst h8_
    exact does_move (u := (Bo (inI x 1 16))) (ev rfl)
  refine R_d (fun u hu hF => ?_) (fun v6 => ?_)
  · have h9_ : v5 = (Bo (inI x 1 16)) := hF.1
    clear hF
    obtain rfl := h9_
    refine doesG_g (b := (inI x 1 16)) rfl (yld rfl rfl) (fun hg1 => ?_) (fun hc => ⟨fun hg1 => absurd hg1 hc, Ext.refl _⟩)
    refine (does_move (u := (Iv y)) (ev rfl)).mono ?_; rintro _ _ ⟨rfl, rfl⟩
    exact ⟨fun _ => rfl, Ext.refl _⟩
  refine R_d (fun u hu hF => ?_) (fun v7 => ?_)
  · have h10_ : (inI x 1 16) = true → v6 = (Iv y) := hF.1
    have h9_ : v5 = (Bo (inI x 1 16)) := hF.2.1
    clear hF
    obtain rfl := h9_
    refine doesG_g (b := (inI x 1 16)) rfl (yld rfl rfl) (fun hg1 => ?_) (fun hc => ⟨fun hg1 => absurd hg1 hc, Ext.refl _⟩)
    obtain rfl := h10_ hg1
    refine (does_call (args := #[(Iv y), (Iv 1), (Iv 16)]) cal47 (evs rfl) (c_spec_l00In y 1 16 _)).mono ?_; rintro v u' ⟨hx, hv⟩
    exact ⟨fun _ => hv, hx⟩
  refine R_d (fun u hu hF => ?_) (fun v8 => ?_)
  · have h9_ : v5 = (Bo (inI x 1 16)) := hF.1
    have h11_ : (inI x 1 16) = true → v7 = (Bo (inI y 1 16)) := hF.2.1
    clear hF
    refine doesG_un rfl ?_
    skip
    obtain rfl := h9_
    refine (does_pick (b := (inI x 1 16)) (u := v7) (v := (Bo false)) (ev rfl) (ev rfl) (ev rfl)).mono ?_; rintro _ _ ⟨rfl, rfl⟩; refine ⟨?_, Ext.refl _⟩; rw [hβ1]; skip
    cases hbb : (inI x 1 16)
    all_goals first | (show _ = _; simp only [↓reduceIte, Bool.true_and, Bool.false_and, Bool.true_or, Bool.false_or, Bool.false_eq_true]; done) | (have e_ := h11_ hbb; subst e_; show _ = _; simp only [↓reduceIte, Bool.true_and, Bool.false_and, Bool.true_or, Bool.false_or, Bool.false_eq_true]; done) | rfl | (have e_ := h11_ hbb; subst e_; rfl) | (simp [hbb] at h11_ ⊢; first | done | rfl | (subst h11_; rfl) | simp_all) | (simp [hbb] at h11_ ⊢; done)
  refine R_p (fun u hu hF => ?_) fun v9 => ?_
  · have h12_ : v8 = (Bo β1) := hF.1
    clear hF; subst h12_
    exact does_move (u := (Bo β1)) (ev rfl)
  refine R_d (fun u hu hF => ?_) (fun v10 => ?_)
  · have h13_ : v9 = (Bo β1) := hF.1
    clear hF
    obtain rfl := h13_
    refine doesG_g (b := β1) rfl (yld rfl rfl) (fun hg1 => ?_) (fun hc => ⟨fun hg1 => absurd hg1 hc, Ext.refl _⟩)
    refine (does_move (u := (Iv z)) (ev rfl)).mono ?_; rintro _ _ ⟨rfl, rfl⟩
    exact ⟨fun _ => rfl, Ext.refl _⟩
  refine R_d (fun u hu hF => ?_) (fun v11 => ?_)
  · have h14_ : β1 = true → v10 = (Iv z) := hF.1
    have h13_ : v9 = (Bo β1) := hF.2.1
    clear hF
    obtain rfl := h13_
    refine doesG_g (b := β1) rfl (yld rfl rfl) (fun hg1 => ?_) (fun hc => ⟨fun hg1 => absurd hg1 hc, Ext.refl _⟩)
    obtain rfl := h14_ hg1
    refine (does_call (args := #[(Iv z), (Iv 1), (Iv 16)]) cal47 (evs rfl) (c_spec_l00In z 1 16 _)).mono ?_; rintro v u' ⟨hx, hv⟩
    exact ⟨fun _ => hv, hx⟩
  refine R_d (fun u hu hF => ?_) (fun v12 => ?_)
  · have h13_ : v9 = (Bo β1) := hF.1
    have h15_ : β1 = true → v11 = (Bo (inI z 1 16)) := hF.2.1
    clear hF
    refine doesG_un rfl ?_
    skip
    obtain rfl := h13_
    refine (does_pick (b := β1) (u := v11) (v := (Bo false)) (ev rfl) (ev rfl) (ev rfl)).mono ?_; rintro _ _ ⟨rfl, rfl⟩; refine ⟨?_, Ext.refl _⟩; skip
    cases hbb : β1
    all_goals first | (show _ = _; simp only [↓reduceIte, Bool.true_and, Bool.false_and, Bool.true_or, Bool.false_or, Bool.false_eq_true]; done) | (have e_ := h15_ hbb; subst e_; show _ = _; simp only [↓reduceIte, Bool.true_and, Bool.false_and, Bool.true_or, Bool.false_or, Bool.false_eq_true]; done) | rfl | (have e_ := h15_ hbb; subst e_; rfl) | (simp [hbb] at h15_ ⊢; first | done | rfl | (subst h15_; rfl) | simp_all) | (simp [hbb] at h15_ ⊢; done)
  refine R_p (fun u hu hF => ?_) fun v13 => ?_
  · have h16_ : v12 = (Bo (β1 && (inI z 1 16))) := hF.1
    clear hF; subst h16_
    exact does_move (u := (Bo (β1 && (inI z 1 16)))) (ev rfl)
  refine R_d (fun u hu hF => ?_) (fun v14 => ?_)
  · have h17_ : v13 = (Bo (β1 && (inI z 1 16))) := hF.1
    clear hF
    obtain rfl := h17_
    refine doesG_g (b := (β1 && (inI z 1 16))) rfl (yld rfl rfl) (fun hg1 => ?_) (fun hc => ⟨fun hg1 => absurd hg1 hc, Ext.refl _⟩)
    refine (does_move (u := (Iv x)) (ev rfl)).mono ?_; rintro _ _ ⟨rfl, rfl⟩
    exact ⟨fun _ => rfl, Ext.refl _⟩
  refine R_d (fun u hu hF => ?_) (fun v15 => ?_)
  · have h17_ : v13 = (Bo (β1 && (inI z 1 16))) := hF.1
    clear hF
    obtain rfl := h17_
    refine doesG_g (b := (β1 && (inI z 1 16))) rfl (yld rfl rfl) (fun hg1 => ?_) (fun hc => ⟨fun hg1 => absurd hg1 hc, Ext.refl _⟩)
    refine (does_move (u := (Iv y)) (ev rfl)).mono ?_; rintro _ _ ⟨rfl, rfl⟩
    exact ⟨fun _ => rfl, Ext.refl _⟩
  refine R_d (fun u hu hF => ?_) (fun v16 => ?_)
  · have h18_ : (β1 && (inI z 1 16)) = true → v14 = (Iv x) := hF.1
    have h19_ : (β1 && (inI z 1 16)) = true → v15 = (Iv y) := hF.2.1
    have h17_ : v13 = (Bo (β1 && (inI z 1 16))) := hF.2.2.1
    clear hF
    obtain rfl := h17_
    refine doesG_g (b := (β1 && (inI z 1 16))) rfl (yld rfl rfl) (fun hg1 => ?_) (fun hc => ⟨fun hg1 => absurd hg1 hc, Ext.refl _⟩)
    obtain rfl := h18_ hg1
    obtain rfl := h19_ hg1
    refine (does_iarith (p := x) (q := y) (r := IntKind.i64.wrap (x * y)) (ev rfl) (ev rfl) (.inr (.inr ⟨rfl, rfl⟩))).mono ?_; rintro _ _ ⟨rfl, rfl⟩
    exact ⟨fun _ => rfl, Ext.refl _⟩
  refine R_d (fun u hu hF => ?_) (fun v17 => ?_)
  · have h17_ : v13 = (Bo (β1 && (inI z 1 16))) := hF.1
    clear hF
    obtain rfl := h17_
    refine doesG_g (b := (β1 && (inI z 1 16))) rfl (yld rfl rfl) (fun hg1 => ?_) (fun hc => ⟨fun hg1 => absurd hg1 hc, Ext.refl _⟩)
    refine (does_move (u := (Iv z)) (ev rfl)).mono ?_; rintro _ _ ⟨rfl, rfl⟩
    exact ⟨fun _ => rfl, Ext.refl _⟩
  refine R_d (fun u hu hF => ?_) (fun v18 => ?_)
  · have h20_ : (β1 && (inI z 1 16)) = true → v16 = (Iv (IntKind.i64.wrap (x * y))) := hF.1
    have h21_ : (β1 && (inI z 1 16)) = true → v17 = (Iv z) := hF.2.1
    have h17_ : v13 = (Bo (β1 && (inI z 1 16))) := hF.2.2.1
    clear hF
    obtain rfl := h17_
    refine doesG_g (b := (β1 && (inI z 1 16))) rfl (yld rfl rfl) (fun hg1 => ?_) (fun hc => ⟨fun hg1 => absurd hg1 hc, Ext.refl _⟩)
    obtain rfl := h20_ hg1
    obtain rfl := h21_ hg1
    refine (does_iarith (p := IntKind.i64.wrap (x * y)) (q := z) (r := IntKind.i64.wrap ((IntKind.i64.wrap (x * y)) * z)) (ev rfl) (ev rfl) (.inr (.inr ⟨rfl, rfl⟩))).mono ?_; rintro _ _ ⟨rfl, rfl⟩
    exact ⟨fun _ => rfl, Ext.refl _⟩
  refine R_d (fun u hu hF => ?_) (fun v19 => ?_)
  · have h22_ : (β1 && (inI z 1 16)) = true → v18 = (Iv (IntKind.i64.wrap ((IntKind.i64.wrap (x * y)) * z))) := hF.1
    have h17_ : v13 = (Bo (β1 && (inI z 1 16))) := hF.2.1
    clear hF
    obtain rfl := h17_
    refine doesG_g (b := (β1 && (inI z 1 16))) rfl (yld rfl rfl) (fun hg1 => ?_) (fun hc => ⟨fun hg1 => absurd hg1 hc, Ext.refl _⟩)
    obtain rfl := h22_ hg1
    refine (does_icmp (p := IntKind.i64.wrap ((IntKind.i64.wrap (x * y)) * z)) (q := 1024) (.inr (.inr (.inr (.inl rfl)))) (ev rfl) (ev rfl)).mono ?_; rintro _ _ ⟨rfl, rfl⟩
    exact ⟨fun _ => (by first | rfl | (show _ = _; simp only [hβ2]; done) | (show _ = _; simp only [hβ2]; rfl)), Ext.refl _⟩
  refine R_d (fun u hu hF => ?_) (fun v20 => ?_)
  · have h17_ : v13 = (Bo (β1 && (inI z 1 16))) := hF.1
    have h23_ : (β1 && (inI z 1 16)) = true → v19 = (Bo β2) := hF.2.1
    clear hF
    refine doesG_un rfl ?_
    skip
    obtain rfl := h17_
    refine (does_pick (b := (β1 && (inI z 1 16))) (u := v19) (v := (Bo false)) (ev rfl) (ev rfl) (ev rfl)).mono ?_; rintro _ _ ⟨rfl, rfl⟩; refine ⟨?_, Ext.refl _⟩; rw [hβ3]; skip
    cases hbb : (β1 && (inI z 1 16))
    all_goals first | (show _ = _; simp only [↓reduceIte, Bool.true_and, Bool.false_and, Bool.true_or, Bool.false_or, Bool.false_eq_true]; done) | (have e_ := h23_ hbb; subst e_; show _ = _; simp only [↓reduceIte, Bool.true_and, Bool.false_and, Bool.true_or, Bool.false_or, Bool.false_eq_true]; done) | rfl | (have e_ := h23_ hbb; subst e_; rfl) | (simp [hbb] at h23_ ⊢; first | done | rfl | (subst h23_; rfl) | simp_all) | (simp [hbb] at h23_ ⊢; done)
  refine RW_fin ?_; intro w21 E22 hP23
  obtain ⟨⟨⟨⟨⟨⟨⟨⟨⟨⟨⟨⟨⟨⟨⟨⟨⟨⟨-, -⟩, -⟩, -⟩, -⟩, -⟩, -⟩, -⟩, -⟩, -⟩, -⟩, -⟩, -⟩, -⟩, -⟩, -⟩, -⟩, -⟩, q24⟩ := hP23
  have X25 := Ext.gr (Ext.refl w) E22
  have q24 : v20 = (Bo β3) := q24
  obtain rfl := q24
  refine fz ?_
  refine ja (Bo β3) ?_
  refine wn K2 ?_
  refine wp_ret ?_
  refine ret_val (v := (Bo β3)) (res_T rfl (slot rfl)) X25 ?_
  have x26 : (cntOk x y z) = β3 := by first | with_reducible rfl | (simp only [cntOk, prod3, hβ1, hβ2, hβ3]; done) | (simp [cntOk, prod3, hβ1, hβ2, hβ3]; done) | rfl
  exact (by first | with_reducible rfl | rw [x26] | rfl)

/- spec.l06Is -/
theorem c_spec_l06Is (g_b : Nat) (g_o : Nat) (g : List Value) (A_g : GridT) (w : World) (hc_g : Cells w g_b g_o g) (hv_g : RGridT w A_g g) : Gives Try.prog 14 #[(Pt g_b g_o)] w (fun v w' => v = (Bo (isGrid A_g))) := by
  obtain ⟨r1, r3, r5, r7, y9, rfl, h2, h4, h6, h8, h10⟩ := hv_g
  have hs13 := h10; have hs13l := Sl.len h10; obtain ⟨p11, q12, rfl⟩ := Sl.shape h10
  refine enter [(Pt g_b g_o), Ud, Ud, Ud, Ud, Ud, Ud, Ud, Ud, Ud, Ud, Ud, Ud, Ud, Ud, Ud, Ud, Ud, Ud, Ud, Ud, Ud, Ud, Ud, Ud, Ud, Ud, Ud, Ud, Ud, Ud, Ud, Ud, Ud, Ud, Ud, Ud, Ud, Ud, Ud, Ud, Ud, Ud, Ud, Ud, Ud, Ud, Ud, Ud, Ud, Ud, Ud, Ud, Ud, Ud, Ud, Ud, Ud, Ud] Try.func14 rfl Try.ntmps14 rfl ?_
  refine wr fun _ K14 => ?_
  refine ja (Bo false) ?_
  refine wn K14 ?_
  refine ws fun _ K15 => ?_
  obtain ⟨β1, hβ1⟩ : ∃ b : Bool, b = ((finV A_g.low) && (finF (cf .f32 r7))) := ⟨_, rfl⟩
  obtain ⟨β2, hβ2⟩ : ∃ b : Bool, b = (fcmp .gtr (ford .f32 (cf .f32 r7) (cf .f32 0))) := ⟨_, rfl⟩
  obtain ⟨β3, hβ3⟩ : ∃ b : Bool, b = ((β1 && β2) && (cntOk A_g.x A_g.y A_g.z)) := ⟨_, rfl⟩
  obtain ⟨β4, hβ4⟩ : ∃ b : Bool, b = (icmp .eql (A_g.vals.length : Int) (IntKind.i64.wrap ((IntKind.i64.wrap (A_g.x * A_g.y)) * A_g.z))) := ⟨_, rfl⟩
  refine region_draw (
    [Fact.pure [] (fun v => v = (Pt g_b g_o)),
    Fact.pure [3] (fun v => v = (Pt g_b g_o)),
    Fact.pure [4] (fun v => v = (Pt g_b g_o)),
    Fact.pure [5] (fun v => v = (.agg #[(Fl r1), (Fl r3), (Fl r5)])),
    Fact.pure [6] (fun v => v = (Bo (finV A_g.low))),
    Fact.pure [7] (fun v => v = (Bo (finV A_g.low))),
    Fact.pure [8] (fun v => (finV A_g.low) = true → v = (Pt g_b g_o)),
    Fact.pure [9, 8] (fun v => (finV A_g.low) = true → v = (Pt g_b g_o)),
    Fact.pure [10, 8] (fun v => (finV A_g.low) = true → v = (Pt g_b (g_o + 3))),
    Fact.pure [11, 8] (fun v => (finV A_g.low) = true → v = (Fl r7)),
    Fact.pure [12, 8] (fun v => (finV A_g.low) = true → v = (Bo (finF (cf .f32 r7)))),
    Fact.pure [8, 13] (fun v => v = (Bo β1)),
    Fact.pure [14] (fun v => v = (Bo β1)),
    Fact.pure [15] (fun v => β1 = true → v = (Pt g_b g_o)),
    Fact.pure [16, 15] (fun v => β1 = true → v = (Pt g_b g_o)),
    Fact.pure [17, 15] (fun v => β1 = true → v = (Pt g_b (g_o + 3))),
    Fact.pure [18, 15] (fun v => β1 = true → v = (Fl r7)),
    Fact.pure [19, 15] (fun v => β1 = true → v = (Bo β2)),
    Fact.pure [15, 20] (fun v => v = (Bo (β1 && β2))),
    Fact.pure [21] (fun v => v = (Bo (β1 && β2))),
    Fact.pure [22] (fun v => (β1 && β2) = true → v = (Pt g_b g_o)),
    Fact.pure [23, 22] (fun v => (β1 && β2) = true → v = (Pt g_b g_o)),
    Fact.pure [24, 22] (fun v => (β1 && β2) = true → v = (Pt g_b (g_o + 4))),
    Fact.pure [25, 22] (fun v => (β1 && β2) = true → v = (Iv A_g.x)),
    Fact.pure [22] (fun v => (β1 && β2) = true → v = (Pt g_b g_o)),
    Fact.pure [27, 22] (fun v => (β1 && β2) = true → v = (Pt g_b g_o)),
    Fact.pure [28, 22] (fun v => (β1 && β2) = true → v = (Pt g_b (g_o + 5))),
    Fact.pure [29, 22] (fun v => (β1 && β2) = true → v = (Iv A_g.y)),
    Fact.pure [22] (fun v => (β1 && β2) = true → v = (Pt g_b g_o)),
    Fact.pure [31, 22] (fun v => (β1 && β2) = true → v = (Pt g_b g_o)),
    Fact.pure [32, 22] (fun v => (β1 && β2) = true → v = (Pt g_b (g_o + 6))),
    Fact.pure [33, 22] (fun v => (β1 && β2) = true → v = (Iv A_g.z)),
    Fact.pure [26, 30, 34, 22] (fun v => (β1 && β2) = true → v = (Bo (cntOk A_g.x A_g.y A_g.z))),
    Fact.pure [22, 35] (fun v => v = (Bo β3)),
    Fact.pure [36] (fun v => v = (Bo β3)),
    Fact.pure [37] (fun v => β3 = true → v = (Pt g_b g_o)),
    Fact.pure [38, 37] (fun v => β3 = true → v = (Pt g_b g_o)),
    Fact.pure [39, 37] (fun v => β3 = true → v = (Pt g_b (g_o + 7))),
    Fact.pure [40, 37] (fun v => β3 = true → v = (.slice p11 A_g.vals.length q12)),
    Fact.pure [41, 37] (fun v => β3 = true → v = (Iv (A_g.vals.length : Int))),
    Fact.pure [37] (fun v => β3 = true → v = (Pt g_b g_o)),
    Fact.pure [43, 37] (fun v => β3 = true → v = (Pt g_b g_o)),
    Fact.pure [44, 37] (fun v => β3 = true → v = (Pt g_b (g_o + 4))),
    Fact.pure [45, 37] (fun v => β3 = true → v = (Iv A_g.x)),
    Fact.pure [37] (fun v => β3 = true → v = (Pt g_b g_o)),
    Fact.pure [47, 37] (fun v => β3 = true → v = (Pt g_b g_o)),
    Fact.pure [48, 37] (fun v => β3 = true → v = (Pt g_b (g_o + 5))),
    Fact.pure [49, 37] (fun v => β3 = true → v = (Iv A_g.y)),
    Fact.pure [46, 50, 37] (fun v => β3 = true → v = (Iv (IntKind.i64.wrap (A_g.x * A_g.y)))),
    Fact.pure [37] (fun v => β3 = true → v = (Pt g_b g_o)),
    Fact.pure [52, 37] (fun v => β3 = true → v = (Pt g_b g_o)),
    Fact.pure [53, 37] (fun v => β3 = true → v = (Pt g_b (g_o + 6))),
    Fact.pure [54, 37] (fun v => β3 = true → v = (Iv A_g.z)),
    Fact.pure [51, 55, 37] (fun v => β3 = true → v = (Iv (IntKind.i64.wrap ((IntKind.i64.wrap (A_g.x * A_g.y)) * A_g.z)))),
    Fact.pure [42, 56, 37] (fun v => β3 = true → v = (Bo β4)),
    Fact.pure [37, 57] (fun v => v = (Bo (β3 && β4)))]) mixed (by kernel_rfl) (by intro _ _ d _ _ h; cases d <;> exact h) ?_
  obtain ⟨w16, hw18⟩ : ∃ w', w' = World.drew w := ⟨_, rfl⟩; rw [← hw18]; have E17 : Ext w w16 := by rw [hw18]; exact Ext.draw _
  clear hw18
  have X19 := Ext.gr (Ext.refl w) E17
  refine R_p (fun u hu _ => does_move (u := (Pt g_b g_o)) (ev rfl)) fun v20 => ?_
  refine R_p (fun u hu hF => ?_) fun v21 => ?_
  · have h3_ : v20 = (Pt g_b g_o) := hF.1
    clear hF; subst h3_
    exact does_nilCheck (ev rfl)
  refine R_p (fun u hu hF => ?_) fun v22 => ?_
  · have h4_ : v21 = (Pt g_b g_o) := hF.1
    clear hF; subst h4_
    exact does_fieldAddr (ev rfl) fa37_0
  refine R_p (fun u hu hF => ?_) fun v23 => ?_
  · have h5_ : v22 = (Pt g_b g_o) := hF.1
    clear hF; subst h5_
    exact does_loadAgg (cs := [(Fl r1), (Fl r3), (Fl r5)]) (ev rfl) Try.isAgg35 Try.sizeOf35 (Cells.sub ((hc_g.ext (Ext.gr (Ext.refl w) E17)).ext hu) 0 3) rfl
  refine R_d (fun u hu hF => ?_) (fun v24 => ?_)
  · have h6_ : v23 = (.agg #[(Fl r1), (Fl r3), (Fl r5)]) := hF.1
    clear hF
    refine doesG_un rfl ?_
    obtain rfl := h6_
    refine (does_call (args := #[(.agg #[(Fl r1), (Fl r3), (Fl r5)])]) cal31 (evs rfl) (c_spec_l01VFinite [(Fl r1), (Fl r3), (Fl r5)] A_g.low _ ⟨r1, r3, r5, rfl, h2, h4, h6⟩)).mono ?_; rintro v u' ⟨hx, hv⟩
    exact ⟨hv, hx⟩
  refine R_p (fun u hu hF => ?_) fun v25 => ?_
  · have h7_ : v24 = (Bo (finV A_g.low)) := hF.1
    clear hF; subst h7_
    exact does_move (u := (Bo (finV A_g.low))) (ev rfl)
  refine R_d (fun u hu hF => ?_) (fun v26 => ?_)
  · have h8_ : v25 = (Bo (finV A_g.low)) := hF.1
    clear hF
    obtain rfl := h8_
    refine doesG_g (b := (finV A_g.low)) rfl (yld rfl rfl) (fun hg1 => ?_) (fun hc => ⟨fun hg1 => absurd hg1 hc, Ext.refl _⟩)
    refine (does_move (u := (Pt g_b g_o)) (ev rfl)).mono ?_; rintro _ _ ⟨rfl, rfl⟩
    exact ⟨fun _ => rfl, Ext.refl _⟩
  refine R_d (fun u hu hF => ?_) (fun v27 => ?_)
  · have h9_ : (finV A_g.low) = true → v26 = (Pt g_b g_o) := hF.1
    have h8_ : v25 = (Bo (finV A_g.low)) := hF.2.1
    clear hF
    obtain rfl := h8_
    refine doesG_g (b := (finV A_g.low)) rfl (yld rfl rfl) (fun hg1 => ?_) (fun hc => ⟨fun hg1 => absurd hg1 hc, Ext.refl _⟩)
    obtain rfl := h9_ hg1
    refine (does_nilCheck (ev rfl)).mono ?_; rintro _ _ ⟨rfl, rfl⟩
    exact ⟨fun _ => rfl, Ext.refl _⟩
  refine R_d (fun u hu hF => ?_) (fun v28 => ?_)
  · have h10_ : (finV A_g.low) = true → v27 = (Pt g_b g_o) := hF.1
    have h8_ : v25 = (Bo (finV A_g.low)) := hF.2.1
    clear hF
    obtain rfl := h8_
    refine doesG_g (b := (finV A_g.low)) rfl (yld rfl rfl) (fun hg1 => ?_) (fun hc => ⟨fun hg1 => absurd hg1 hc, Ext.refl _⟩)
    obtain rfl := h10_ hg1
    refine (does_fieldAddr (ev rfl) fa37_1).mono ?_; rintro _ _ ⟨rfl, rfl⟩
    exact ⟨fun _ => rfl, Ext.refl _⟩
  refine R_d (fun u hu hF => ?_) (fun v29 => ?_)
  · have h11_ : (finV A_g.low) = true → v28 = (Pt g_b (g_o + 3)) := hF.1
    have h8_ : v25 = (Bo (finV A_g.low)) := hF.2.1
    clear hF
    obtain rfl := h8_
    refine doesG_g (b := (finV A_g.low)) rfl (yld rfl rfl) (fun hg1 => ?_) (fun hc => ⟨fun hg1 => absurd hg1 hc, Ext.refl _⟩)
    obtain rfl := h11_ hg1
    refine (does_load (u := (Fl r7)) (ev rfl) Try.isAgg22 (Cells.at ((hc_g.ext (Ext.gr (Ext.refl w) E17)).ext hu) 3 rfl)).mono ?_; rintro _ _ ⟨rfl, rfl⟩
    exact ⟨fun _ => rfl, Ext.refl _⟩
  refine R_d (fun u hu hF => ?_) (fun v30 => ?_)
  · have h12_ : (finV A_g.low) = true → v29 = (Fl r7) := hF.1
    have h8_ : v25 = (Bo (finV A_g.low)) := hF.2.1
    clear hF
    obtain rfl := h8_
    refine doesG_g (b := (finV A_g.low)) rfl (yld rfl rfl) (fun hg1 => ?_) (fun hc => ⟨fun hg1 => absurd hg1 hc, Ext.refl _⟩)
    obtain rfl := h12_ hg1
    refine (does_call (args := #[(Fl r7)]) cal32 (evs rfl) (c_spec_l01Finite r7 _)).mono ?_; rintro v u' ⟨hx, hv⟩
    exact ⟨fun _ => hv, hx⟩
  refine R_d (fun u hu hF => ?_) (fun v31 => ?_)
  · have h8_ : v25 = (Bo (finV A_g.low)) := hF.1
    have h13_ : (finV A_g.low) = true → v30 = (Bo (finF (cf .f32 r7))) := hF.2.1
    clear hF
    refine doesG_un rfl ?_
    skip
    obtain rfl := h8_
    refine (does_pick (b := (finV A_g.low)) (u := v30) (v := (Bo false)) (ev rfl) (ev rfl) (ev rfl)).mono ?_; rintro _ _ ⟨rfl, rfl⟩; refine ⟨?_, Ext.refl _⟩; rw [hβ1]; skip
    cases hbb : (finV A_g.low)
    all_goals first | (show _ = _; simp only [↓reduceIte, Bool.true_and, Bool.false_and, Bool.true_or, Bool.false_or, Bool.false_eq_true]; done) | (have e_ := h13_ hbb; subst e_; show _ = _; simp only [↓reduceIte, Bool.true_and, Bool.false_and, Bool.true_or, Bool.false_or, Bool.false_eq_true]; done) | rfl | (have e_ := h13_ hbb; subst e_; rfl) | (simp [hbb] at h13_ ⊢; first | done | rfl | (subst h13_; rfl) | simp_all) | (simp [hbb] at h13_ ⊢; done)
  refine R_p (fun u hu hF => ?_) fun v32 => ?_
  · have h14_ : v31 = (Bo β1) := hF.1
    clear hF; subst h14_
    exact does_move (u := (Bo β1)) (ev rfl)
  refine R_d (fun u hu hF => ?_) (fun v33 => ?_)
  · have h15_ : v32 = (Bo β1) := hF.1
    clear hF
    obtain rfl := h15_
    refine doesG_g (b := β1) rfl (yld rfl rfl) (fun hg1 => ?_) (fun hc => ⟨fun hg1 => absurd hg1 hc, Ext.refl _⟩)
    refine (does_move (u := (Pt g_b g_o)) (ev rfl)).mono ?_; rintro _ _ ⟨rfl, rfl⟩
    exact ⟨fun _ => rfl, Ext.refl _⟩
  refine R_d (fun u hu hF => ?_) (fun v34 => ?_)
  · have h16_ : β1 = true → v33 = (Pt g_b g_o) := hF.1
    have h15_ : v32 = (Bo β1) := hF.2.1
    clear hF
    obtain rfl := h15_
    refine doesG_g (b := β1) rfl (yld rfl rfl) (fun hg1 => ?_) (fun hc => ⟨fun hg1 => absurd hg1 hc, Ext.refl _⟩)
    obtain rfl := h16_ hg1
    refine (does_nilCheck (ev rfl)).mono ?_; rintro _ _ ⟨rfl, rfl⟩
    exact ⟨fun _ => rfl, Ext.refl _⟩
  refine R_d (fun u hu hF => ?_) (fun v35 => ?_)
  · have h17_ : β1 = true → v34 = (Pt g_b g_o) := hF.1
    have h15_ : v32 = (Bo β1) := hF.2.1
    clear hF
    obtain rfl := h15_
    refine doesG_g (b := β1) rfl (yld rfl rfl) (fun hg1 => ?_) (fun hc => ⟨fun hg1 => absurd hg1 hc, Ext.refl _⟩)
    obtain rfl := h17_ hg1
    refine (does_fieldAddr (ev rfl) fa37_1).mono ?_; rintro _ _ ⟨rfl, rfl⟩
    exact ⟨fun _ => rfl, Ext.refl _⟩
  refine R_d (fun u hu hF => ?_) (fun v36 => ?_)
  · have h18_ : β1 = true → v35 = (Pt g_b (g_o + 3)) := hF.1
    have h15_ : v32 = (Bo β1) := hF.2.1
    clear hF
    obtain rfl := h15_
    refine doesG_g (b := β1) rfl (yld rfl rfl) (fun hg1 => ?_) (fun hc => ⟨fun hg1 => absurd hg1 hc, Ext.refl _⟩)
    obtain rfl := h18_ hg1
    refine (does_load (u := (Fl r7)) (ev rfl) Try.isAgg22 (Cells.at ((hc_g.ext (Ext.gr (Ext.refl w) E17)).ext hu) 3 rfl)).mono ?_; rintro _ _ ⟨rfl, rfl⟩
    exact ⟨fun _ => rfl, Ext.refl _⟩
  refine R_d (fun u hu hF => ?_) (fun v37 => ?_)
  · have h19_ : β1 = true → v36 = (Fl r7) := hF.1
    have h15_ : v32 = (Bo β1) := hF.2.1
    clear hF
    obtain rfl := h15_
    refine doesG_g (b := β1) rfl (yld rfl rfl) (fun hg1 => ?_) (fun hc => ⟨fun hg1 => absurd hg1 hc, Ext.refl _⟩)
    obtain rfl := h19_ hg1
    refine (does_fcmp (.inr (.inr (.inr (.inr (.inl rfl))))) (ev rfl) (ev rfl)).mono ?_; rintro _ _ ⟨rfl, rfl⟩
    exact ⟨fun _ => (by first | rfl | (show _ = _; simp only [hβ2]; done) | (show _ = _; simp only [hβ2]; rfl)), Ext.refl _⟩
  refine R_d (fun u hu hF => ?_) (fun v38 => ?_)
  · have h15_ : v32 = (Bo β1) := hF.1
    have h20_ : β1 = true → v37 = (Bo β2) := hF.2.1
    clear hF
    refine doesG_un rfl ?_
    skip
    obtain rfl := h15_
    refine (does_pick (b := β1) (u := v37) (v := (Bo false)) (ev rfl) (ev rfl) (ev rfl)).mono ?_; rintro _ _ ⟨rfl, rfl⟩; refine ⟨?_, Ext.refl _⟩; skip
    cases hbb : β1
    all_goals first | (show _ = _; simp only [↓reduceIte, Bool.true_and, Bool.false_and, Bool.true_or, Bool.false_or, Bool.false_eq_true]; done) | (have e_ := h20_ hbb; subst e_; show _ = _; simp only [↓reduceIte, Bool.true_and, Bool.false_and, Bool.true_or, Bool.false_or, Bool.false_eq_true]; done) | rfl | (have e_ := h20_ hbb; subst e_; rfl) | (simp [hbb] at h20_ ⊢; first | done | rfl | (subst h20_; rfl) | simp_all) | (simp [hbb] at h20_ ⊢; done)
  refine R_p (fun u hu hF => ?_) fun v39 => ?_
  · have h21_ : v38 = (Bo (β1 && β2)) := hF.1
    clear hF; subst h21_
    exact does_move (u := (Bo (β1 && β2))) (ev rfl)
  refine R_d (fun u hu hF => ?_) (fun v40 => ?_)
  · have h22_ : v39 = (Bo (β1 && β2)) := hF.1
    clear hF
    obtain rfl := h22_
    refine doesG_g (b := (β1 && β2)) rfl (yld rfl rfl) (fun hg1 => ?_) (fun hc => ⟨fun hg1 => absurd hg1 hc, Ext.refl _⟩)
    refine (does_move (u := (Pt g_b g_o)) (ev rfl)).mono ?_; rintro _ _ ⟨rfl, rfl⟩
    exact ⟨fun _ => rfl, Ext.refl _⟩
  refine R_d (fun u hu hF => ?_) (fun v41 => ?_)
  · have h23_ : (β1 && β2) = true → v40 = (Pt g_b g_o) := hF.1
    have h22_ : v39 = (Bo (β1 && β2)) := hF.2.1
    clear hF
    obtain rfl := h22_
    refine doesG_g (b := (β1 && β2)) rfl (yld rfl rfl) (fun hg1 => ?_) (fun hc => ⟨fun hg1 => absurd hg1 hc, Ext.refl _⟩)
    obtain rfl := h23_ hg1
    refine (does_nilCheck (ev rfl)).mono ?_; rintro _ _ ⟨rfl, rfl⟩
    exact ⟨fun _ => rfl, Ext.refl _⟩
  refine R_d (fun u hu hF => ?_) (fun v42 => ?_)
  · have h24_ : (β1 && β2) = true → v41 = (Pt g_b g_o) := hF.1
    have h22_ : v39 = (Bo (β1 && β2)) := hF.2.1
    clear hF
    obtain rfl := h22_
    refine doesG_g (b := (β1 && β2)) rfl (yld rfl rfl) (fun hg1 => ?_) (fun hc => ⟨fun hg1 => absurd hg1 hc, Ext.refl _⟩)
    obtain rfl := h24_ hg1
    refine (does_fieldAddr (ev rfl) fa37_2).mono ?_; rintro _ _ ⟨rfl, rfl⟩
    exact ⟨fun _ => rfl, Ext.refl _⟩
  refine R_d (fun u hu hF => ?_) (fun v43 => ?_)
  · have h25_ : (β1 && β2) = true → v42 = (Pt g_b (g_o + 4)) := hF.1
    have h22_ : v39 = (Bo (β1 && β2)) := hF.2.1
    clear hF
    obtain rfl := h22_
    refine doesG_g (b := (β1 && β2)) rfl (yld rfl rfl) (fun hg1 => ?_) (fun hc => ⟨fun hg1 => absurd hg1 hc, Ext.refl _⟩)
    obtain rfl := h25_ hg1
    refine (does_load (u := (Iv A_g.x)) (ev rfl) Try.isAgg2 (Cells.at ((hc_g.ext (Ext.gr (Ext.refl w) E17)).ext hu) 4 rfl)).mono ?_; rintro _ _ ⟨rfl, rfl⟩
    exact ⟨fun _ => rfl, Ext.refl _⟩
  refine R_d (fun u hu hF => ?_) (fun v44 => ?_)
  · have h22_ : v39 = (Bo (β1 && β2)) := hF.1
    clear hF
    obtain rfl := h22_
    refine doesG_g (b := (β1 && β2)) rfl (yld rfl rfl) (fun hg1 => ?_) (fun hc => ⟨fun hg1 => absurd hg1 hc, Ext.refl _⟩)
    refine (does_move (u := (Pt g_b g_o)) (ev rfl)).mono ?_; rintro _ _ ⟨rfl, rfl⟩
    exact ⟨fun _ => rfl, Ext.refl _⟩
  refine R_d (fun u hu hF => ?_) (fun v45 => ?_)
  · have h27_ : (β1 && β2) = true → v44 = (Pt g_b g_o) := hF.1
    have h22_ : v39 = (Bo (β1 && β2)) := hF.2.1
    clear hF
    obtain rfl := h22_
    refine doesG_g (b := (β1 && β2)) rfl (yld rfl rfl) (fun hg1 => ?_) (fun hc => ⟨fun hg1 => absurd hg1 hc, Ext.refl _⟩)
    obtain rfl := h27_ hg1
    refine (does_nilCheck (ev rfl)).mono ?_; rintro _ _ ⟨rfl, rfl⟩
    exact ⟨fun _ => rfl, Ext.refl _⟩
  refine R_d (fun u hu hF => ?_) (fun v46 => ?_)
  · have h28_ : (β1 && β2) = true → v45 = (Pt g_b g_o) := hF.1
    have h22_ : v39 = (Bo (β1 && β2)) := hF.2.1
    clear hF
    obtain rfl := h22_
    refine doesG_g (b := (β1 && β2)) rfl (yld rfl rfl) (fun hg1 => ?_) (fun hc => ⟨fun hg1 => absurd hg1 hc, Ext.refl _⟩)
    obtain rfl := h28_ hg1
    refine (does_fieldAddr (ev rfl) fa37_3).mono ?_; rintro _ _ ⟨rfl, rfl⟩
    exact ⟨fun _ => rfl, Ext.refl _⟩
  refine R_d (fun u hu hF => ?_) (fun v47 => ?_)
  · have h29_ : (β1 && β2) = true → v46 = (Pt g_b (g_o + 5)) := hF.1
    have h22_ : v39 = (Bo (β1 && β2)) := hF.2.1
    clear hF
    obtain rfl := h22_
    refine doesG_g (b := (β1 && β2)) rfl (yld rfl rfl) (fun hg1 => ?_) (fun hc => ⟨fun hg1 => absurd hg1 hc, Ext.refl _⟩)
    obtain rfl := h29_ hg1
    refine (does_load (u := (Iv A_g.y)) (ev rfl) Try.isAgg2 (Cells.at ((hc_g.ext (Ext.gr (Ext.refl w) E17)).ext hu) 5 rfl)).mono ?_; rintro _ _ ⟨rfl, rfl⟩
    exact ⟨fun _ => rfl, Ext.refl _⟩
  refine R_d (fun u hu hF => ?_) (fun v48 => ?_)
  · have h22_ : v39 = (Bo (β1 && β2)) := hF.1
    clear hF
    obtain rfl := h22_
    refine doesG_g (b := (β1 && β2)) rfl (yld rfl rfl) (fun hg1 => ?_) (fun hc => ⟨fun hg1 => absurd hg1 hc, Ext.refl _⟩)
    refine (does_move (u := (Pt g_b g_o)) (ev rfl)).mono ?_; rintro _ _ ⟨rfl, rfl⟩
    exact ⟨fun _ => rfl, Ext.refl _⟩
  refine R_d (fun u hu hF => ?_) (fun v49 => ?_)
  · have h31_ : (β1 && β2) = true → v48 = (Pt g_b g_o) := hF.1
    have h22_ : v39 = (Bo (β1 && β2)) := hF.2.1
    clear hF
    obtain rfl := h22_
    refine doesG_g (b := (β1 && β2)) rfl (yld rfl rfl) (fun hg1 => ?_) (fun hc => ⟨fun hg1 => absurd hg1 hc, Ext.refl _⟩)
    obtain rfl := h31_ hg1
    refine (does_nilCheck (ev rfl)).mono ?_; rintro _ _ ⟨rfl, rfl⟩
    exact ⟨fun _ => rfl, Ext.refl _⟩
  refine R_d (fun u hu hF => ?_) (fun v50 => ?_)
  · have h32_ : (β1 && β2) = true → v49 = (Pt g_b g_o) := hF.1
    have h22_ : v39 = (Bo (β1 && β2)) := hF.2.1
    clear hF
    obtain rfl := h22_
    refine doesG_g (b := (β1 && β2)) rfl (yld rfl rfl) (fun hg1 => ?_) (fun hc => ⟨fun hg1 => absurd hg1 hc, Ext.refl _⟩)
    obtain rfl := h32_ hg1
    refine (does_fieldAddr (ev rfl) fa37_4).mono ?_; rintro _ _ ⟨rfl, rfl⟩
    exact ⟨fun _ => rfl, Ext.refl _⟩
  refine R_d (fun u hu hF => ?_) (fun v51 => ?_)
  · have h33_ : (β1 && β2) = true → v50 = (Pt g_b (g_o + 6)) := hF.1
    have h22_ : v39 = (Bo (β1 && β2)) := hF.2.1
    clear hF
    obtain rfl := h22_
    refine doesG_g (b := (β1 && β2)) rfl (yld rfl rfl) (fun hg1 => ?_) (fun hc => ⟨fun hg1 => absurd hg1 hc, Ext.refl _⟩)
    obtain rfl := h33_ hg1
    refine (does_load (u := (Iv A_g.z)) (ev rfl) Try.isAgg2 (Cells.at ((hc_g.ext (Ext.gr (Ext.refl w) E17)).ext hu) 6 rfl)).mono ?_; rintro _ _ ⟨rfl, rfl⟩
    exact ⟨fun _ => rfl, Ext.refl _⟩
  refine R_d (fun u hu hF => ?_) (fun v52 => ?_)
  · have h26_ : (β1 && β2) = true → v43 = (Iv A_g.x) := hF.1
    have h30_ : (β1 && β2) = true → v47 = (Iv A_g.y) := hF.2.1
    have h34_ : (β1 && β2) = true → v51 = (Iv A_g.z) := hF.2.2.1
    have h22_ : v39 = (Bo (β1 && β2)) := hF.2.2.2.1
    clear hF
    obtain rfl := h22_
    refine doesG_g (b := (β1 && β2)) rfl (yld rfl rfl) (fun hg1 => ?_) (fun hc => ⟨fun hg1 => absurd hg1 hc, Ext.refl _⟩)
    obtain rfl := h26_ hg1
    obtain rfl := h30_ hg1
    obtain rfl := h34_ hg1
    refine (does_call (args := #[(Iv A_g.x), (Iv A_g.y), (Iv A_g.z)]) cal33 (evs rfl) (c_spec_l06Counts A_g.x A_g.y A_g.z _)).mono ?_; rintro v u' ⟨hx, hv⟩
    exact ⟨fun _ => hv, hx⟩
  refine R_d (fun u hu hF => ?_) (fun v53 => ?_)
  · have h22_ : v39 = (Bo (β1 && β2)) := hF.1
    have h35_ : (β1 && β2) = true → v52 = (Bo (cntOk A_g.x A_g.y A_g.z)) := hF.2.1
    clear hF
    refine doesG_un rfl ?_
    skip
    obtain rfl := h22_
    refine (does_pick (b := (β1 && β2)) (u := v52) (v := (Bo false)) (ev rfl) (ev rfl) (ev rfl)).mono ?_; rintro _ _ ⟨rfl, rfl⟩; refine ⟨?_, Ext.refl _⟩; rw [hβ3]; skip
    cases hbb : (β1 && β2)
    all_goals first | (show _ = _; simp only [↓reduceIte, Bool.true_and, Bool.false_and, Bool.true_or, Bool.false_or, Bool.false_eq_true]; done) | (have e_ := h35_ hbb; subst e_; show _ = _; simp only [↓reduceIte, Bool.true_and, Bool.false_and, Bool.true_or, Bool.false_or, Bool.false_eq_true]; done) | rfl | (have e_ := h35_ hbb; subst e_; rfl) | (simp [hbb] at h35_ ⊢; first | done | rfl | (subst h35_; rfl) | simp_all) | (simp [hbb] at h35_ ⊢; done)
  refine R_p (fun u hu hF => ?_) fun v54 => ?_
  · have h36_ : v53 = (Bo β3) := hF.1
    clear hF; subst h36_
    exact does_move (u := (Bo β3)) (ev rfl)
  refine R_d (fun u hu hF => ?_) (fun v55 => ?_)
  · have h37_ : v54 = (Bo β3) := hF.1
    clear hF
    obtain rfl := h37_
    refine doesG_g (b := β3) rfl (yld rfl rfl) (fun hg1 => ?_) (fun hc => ⟨fun hg1 => absurd hg1 hc, Ext.refl _⟩)
    refine (does_move (u := (Pt g_b g_o)) (ev rfl)).mono ?_; rintro _ _ ⟨rfl, rfl⟩
    exact ⟨fun _ => rfl, Ext.refl _⟩
  refine R_d (fun u hu hF => ?_) (fun v56 => ?_)
  · have h38_ : β3 = true → v55 = (Pt g_b g_o) := hF.1
    have h37_ : v54 = (Bo β3) := hF.2.1
    clear hF
    obtain rfl := h37_
    refine doesG_g (b := β3) rfl (yld rfl rfl) (fun hg1 => ?_) (fun hc => ⟨fun hg1 => absurd hg1 hc, Ext.refl _⟩)
    obtain rfl := h38_ hg1
    refine (does_nilCheck (ev rfl)).mono ?_; rintro _ _ ⟨rfl, rfl⟩
    exact ⟨fun _ => rfl, Ext.refl _⟩
  refine R_d (fun u hu hF => ?_) (fun v57 => ?_)
  · have h39_ : β3 = true → v56 = (Pt g_b g_o) := hF.1
    have h37_ : v54 = (Bo β3) := hF.2.1
    clear hF
    obtain rfl := h37_
    refine doesG_g (b := β3) rfl (yld rfl rfl) (fun hg1 => ?_) (fun hc => ⟨fun hg1 => absurd hg1 hc, Ext.refl _⟩)
    obtain rfl := h39_ hg1
    refine (does_fieldAddr (ev rfl) fa37_5).mono ?_; rintro _ _ ⟨rfl, rfl⟩
    exact ⟨fun _ => rfl, Ext.refl _⟩
  refine R_d (fun u hu hF => ?_) (fun v58 => ?_)
  · have h40_ : β3 = true → v57 = (Pt g_b (g_o + 7)) := hF.1
    have h37_ : v54 = (Bo β3) := hF.2.1
    clear hF
    obtain rfl := h37_
    refine doesG_g (b := β3) rfl (yld rfl rfl) (fun hg1 => ?_) (fun hc => ⟨fun hg1 => absurd hg1 hc, Ext.refl _⟩)
    obtain rfl := h40_ hg1
    refine (does_load (u := (.slice p11 A_g.vals.length q12)) (ev rfl) Try.isAgg25 (Cells.at ((hc_g.ext (Ext.gr (Ext.refl w) E17)).ext hu) 7 rfl)).mono ?_; rintro _ _ ⟨rfl, rfl⟩
    exact ⟨fun _ => rfl, Ext.refl _⟩
  refine R_d (fun u hu hF => ?_) (fun v59 => ?_)
  · have h41_ : β3 = true → v58 = (.slice p11 A_g.vals.length q12) := hF.1
    have h37_ : v54 = (Bo β3) := hF.2.1
    clear hF
    obtain rfl := h37_
    refine doesG_g (b := β3) rfl (yld rfl rfl) (fun hg1 => ?_) (fun hc => ⟨fun hg1 => absurd hg1 hc, Ext.refl _⟩)
    obtain rfl := h41_ hg1
    refine (does_len_slice Try.underlying25 (ev rfl)).mono ?_; rintro _ _ ⟨rfl, rfl⟩
    exact ⟨fun _ => rfl, Ext.refl _⟩
  refine R_d (fun u hu hF => ?_) (fun v60 => ?_)
  · have h37_ : v54 = (Bo β3) := hF.1
    clear hF
    obtain rfl := h37_
    refine doesG_g (b := β3) rfl (yld rfl rfl) (fun hg1 => ?_) (fun hc => ⟨fun hg1 => absurd hg1 hc, Ext.refl _⟩)
    refine (does_move (u := (Pt g_b g_o)) (ev rfl)).mono ?_; rintro _ _ ⟨rfl, rfl⟩
    exact ⟨fun _ => rfl, Ext.refl _⟩
  refine R_d (fun u hu hF => ?_) (fun v61 => ?_)
  · have h43_ : β3 = true → v60 = (Pt g_b g_o) := hF.1
    have h37_ : v54 = (Bo β3) := hF.2.1
    clear hF
    obtain rfl := h37_
    refine doesG_g (b := β3) rfl (yld rfl rfl) (fun hg1 => ?_) (fun hc => ⟨fun hg1 => absurd hg1 hc, Ext.refl _⟩)
    obtain rfl := h43_ hg1
    refine (does_nilCheck (ev rfl)).mono ?_; rintro _ _ ⟨rfl, rfl⟩
    exact ⟨fun _ => rfl, Ext.refl _⟩
  refine R_d (fun u hu hF => ?_) (fun v62 => ?_)
  · have h44_ : β3 = true → v61 = (Pt g_b g_o) := hF.1
    have h37_ : v54 = (Bo β3) := hF.2.1
    clear hF
    obtain rfl := h37_
    refine doesG_g (b := β3) rfl (yld rfl rfl) (fun hg1 => ?_) (fun hc => ⟨fun hg1 => absurd hg1 hc, Ext.refl _⟩)
    obtain rfl := h44_ hg1
    refine (does_fieldAddr (ev rfl) fa37_2).mono ?_; rintro _ _ ⟨rfl, rfl⟩
    exact ⟨fun _ => rfl, Ext.refl _⟩
  refine R_d (fun u hu hF => ?_) (fun v63 => ?_)
  · have h45_ : β3 = true → v62 = (Pt g_b (g_o + 4)) := hF.1
    have h37_ : v54 = (Bo β3) := hF.2.1
    clear hF
    obtain rfl := h37_
    refine doesG_g (b := β3) rfl (yld rfl rfl) (fun hg1 => ?_) (fun hc => ⟨fun hg1 => absurd hg1 hc, Ext.refl _⟩)
    obtain rfl := h45_ hg1
    refine (does_load (u := (Iv A_g.x)) (ev rfl) Try.isAgg2 (Cells.at ((hc_g.ext (Ext.gr (Ext.refl w) E17)).ext hu) 4 rfl)).mono ?_; rintro _ _ ⟨rfl, rfl⟩
    exact ⟨fun _ => rfl, Ext.refl _⟩
  refine R_d (fun u hu hF => ?_) (fun v64 => ?_)
  · have h37_ : v54 = (Bo β3) := hF.1
    clear hF
    obtain rfl := h37_
    refine doesG_g (b := β3) rfl (yld rfl rfl) (fun hg1 => ?_) (fun hc => ⟨fun hg1 => absurd hg1 hc, Ext.refl _⟩)
    refine (does_move (u := (Pt g_b g_o)) (ev rfl)).mono ?_; rintro _ _ ⟨rfl, rfl⟩
    exact ⟨fun _ => rfl, Ext.refl _⟩
  refine R_d (fun u hu hF => ?_) (fun v65 => ?_)
  · have h47_ : β3 = true → v64 = (Pt g_b g_o) := hF.1
    have h37_ : v54 = (Bo β3) := hF.2.1
    clear hF
    obtain rfl := h37_
    refine doesG_g (b := β3) rfl (yld rfl rfl) (fun hg1 => ?_) (fun hc => ⟨fun hg1 => absurd hg1 hc, Ext.refl _⟩)
    obtain rfl := h47_ hg1
    refine (does_nilCheck (ev rfl)).mono ?_; rintro _ _ ⟨rfl, rfl⟩
    exact ⟨fun _ => rfl, Ext.refl _⟩
  refine R_d (fun u hu hF => ?_) (fun v66 => ?_)
  · have h48_ : β3 = true → v65 = (Pt g_b g_o) := hF.1
    have h37_ : v54 = (Bo β3) := hF.2.1
    clear hF
    obtain rfl := h37_
    refine doesG_g (b := β3) rfl (yld rfl rfl) (fun hg1 => ?_) (fun hc => ⟨fun hg1 => absurd hg1 hc, Ext.refl _⟩)
    obtain rfl := h48_ hg1
    refine (does_fieldAddr (ev rfl) fa37_3).mono ?_; rintro _ _ ⟨rfl, rfl⟩
    exact ⟨fun _ => rfl, Ext.refl _⟩
  refine R_d (fun u hu hF => ?_) (fun v67 => ?_)
  · have h49_ : β3 = true → v66 = (Pt g_b (g_o + 5)) := hF.1
    have h37_ : v54 = (Bo β3) := hF.2.1
    clear hF
    obtain rfl := h37_
    refine doesG_g (b := β3) rfl (yld rfl rfl) (fun hg1 => ?_) (fun hc => ⟨fun hg1 => absurd hg1 hc, Ext.refl _⟩)
    obtain rfl := h49_ hg1
    refine (does_load (u := (Iv A_g.y)) (ev rfl) Try.isAgg2 (Cells.at ((hc_g.ext (Ext.gr (Ext.refl w) E17)).ext hu) 5 rfl)).mono ?_; rintro _ _ ⟨rfl, rfl⟩
    exact ⟨fun _ => rfl, Ext.refl _⟩
  refine R_d (fun u hu hF => ?_) (fun v68 => ?_)
  · have h46_ : β3 = true → v63 = (Iv A_g.x) := hF.1
    have h50_ : β3 = true → v67 = (Iv A_g.y) := hF.2.1
    have h37_ : v54 = (Bo β3) := hF.2.2.1
    clear hF
    obtain rfl := h37_
    refine doesG_g (b := β3) rfl (yld rfl rfl) (fun hg1 => ?_) (fun hc => ⟨fun hg1 => absurd hg1 hc, Ext.refl _⟩)
    obtain rfl := h46_ hg1
    obtain rfl := h50_ hg1
    refine (does_iarith (p := A_g.x) (q := A_g.y) (r := IntKind.i64.wrap (A_g.x * A_g.y)) (ev rfl) (ev rfl) (.inr (.inr ⟨rfl, rfl⟩))).mono ?_; rintro _ _ ⟨rfl, rfl⟩
    exact ⟨fun _ => rfl, Ext.refl _⟩
  refine R_d (fun u hu hF => ?_) (fun v69 => ?_)
  · have h37_ : v54 = (Bo β3) := hF.1
    clear hF
    obtain rfl := h37_
    refine doesG_g (b := β3) rfl (yld rfl rfl) (fun hg1 => ?_) (fun hc => ⟨fun hg1 => absurd hg1 hc, Ext.refl _⟩)
    refine (does_move (u := (Pt g_b g_o)) (ev rfl)).mono ?_; rintro _ _ ⟨rfl, rfl⟩
    exact ⟨fun _ => rfl, Ext.refl _⟩
  refine R_d (fun u hu hF => ?_) (fun v70 => ?_)
  · have h52_ : β3 = true → v69 = (Pt g_b g_o) := hF.1
    have h37_ : v54 = (Bo β3) := hF.2.1
    clear hF
    obtain rfl := h37_
    refine doesG_g (b := β3) rfl (yld rfl rfl) (fun hg1 => ?_) (fun hc => ⟨fun hg1 => absurd hg1 hc, Ext.refl _⟩)
    obtain rfl := h52_ hg1
    refine (does_nilCheck (ev rfl)).mono ?_; rintro _ _ ⟨rfl, rfl⟩
    exact ⟨fun _ => rfl, Ext.refl _⟩
  refine R_d (fun u hu hF => ?_) (fun v71 => ?_)
  · have h53_ : β3 = true → v70 = (Pt g_b g_o) := hF.1
    have h37_ : v54 = (Bo β3) := hF.2.1
    clear hF
    obtain rfl := h37_
    refine doesG_g (b := β3) rfl (yld rfl rfl) (fun hg1 => ?_) (fun hc => ⟨fun hg1 => absurd hg1 hc, Ext.refl _⟩)
    obtain rfl := h53_ hg1
    refine (does_fieldAddr (ev rfl) fa37_4).mono ?_; rintro _ _ ⟨rfl, rfl⟩
    exact ⟨fun _ => rfl, Ext.refl _⟩
  refine R_d (fun u hu hF => ?_) (fun v72 => ?_)
  · have h54_ : β3 = true → v71 = (Pt g_b (g_o + 6)) := hF.1
    have h37_ : v54 = (Bo β3) := hF.2.1
    clear hF
    obtain rfl := h37_
    refine doesG_g (b := β3) rfl (yld rfl rfl) (fun hg1 => ?_) (fun hc => ⟨fun hg1 => absurd hg1 hc, Ext.refl _⟩)
    obtain rfl := h54_ hg1
    refine (does_load (u := (Iv A_g.z)) (ev rfl) Try.isAgg2 (Cells.at ((hc_g.ext (Ext.gr (Ext.refl w) E17)).ext hu) 6 rfl)).mono ?_; rintro _ _ ⟨rfl, rfl⟩
    exact ⟨fun _ => rfl, Ext.refl _⟩
  refine R_d (fun u hu hF => ?_) (fun v73 => ?_)
  · have h51_ : β3 = true → v68 = (Iv (IntKind.i64.wrap (A_g.x * A_g.y))) := hF.1
    have h55_ : β3 = true → v72 = (Iv A_g.z) := hF.2.1
    have h37_ : v54 = (Bo β3) := hF.2.2.1
    clear hF
    obtain rfl := h37_
    refine doesG_g (b := β3) rfl (yld rfl rfl) (fun hg1 => ?_) (fun hc => ⟨fun hg1 => absurd hg1 hc, Ext.refl _⟩)
    obtain rfl := h51_ hg1
    obtain rfl := h55_ hg1
    refine (does_iarith (p := IntKind.i64.wrap (A_g.x * A_g.y)) (q := A_g.z) (r := IntKind.i64.wrap ((IntKind.i64.wrap (A_g.x * A_g.y)) * A_g.z)) (ev rfl) (ev rfl) (.inr (.inr ⟨rfl, rfl⟩))).mono ?_; rintro _ _ ⟨rfl, rfl⟩
    exact ⟨fun _ => rfl, Ext.refl _⟩
  refine R_d (fun u hu hF => ?_) (fun v74 => ?_)
  · have h42_ : β3 = true → v59 = (Iv (A_g.vals.length : Int)) := hF.1
    have h56_ : β3 = true → v73 = (Iv (IntKind.i64.wrap ((IntKind.i64.wrap (A_g.x * A_g.y)) * A_g.z))) := hF.2.1
    have h37_ : v54 = (Bo β3) := hF.2.2.1
    clear hF
    obtain rfl := h37_
    refine doesG_g (b := β3) rfl (yld rfl rfl) (fun hg1 => ?_) (fun hc => ⟨fun hg1 => absurd hg1 hc, Ext.refl _⟩)
    obtain rfl := h42_ hg1
    obtain rfl := h56_ hg1
    refine (does_icmp (p := (A_g.vals.length : Int)) (q := IntKind.i64.wrap ((IntKind.i64.wrap (A_g.x * A_g.y)) * A_g.z)) (.inl rfl) (ev rfl) (ev rfl)).mono ?_; rintro _ _ ⟨rfl, rfl⟩
    exact ⟨fun _ => (by first | rfl | (show _ = _; simp only [hβ4]; done) | (show _ = _; simp only [hβ4]; rfl)), Ext.refl _⟩
  refine R_d (fun u hu hF => ?_) (fun v75 => ?_)
  · have h37_ : v54 = (Bo β3) := hF.1
    have h57_ : β3 = true → v74 = (Bo β4) := hF.2.1
    clear hF
    refine doesG_un rfl ?_
    skip
    obtain rfl := h37_
    refine (does_pick (b := β3) (u := v74) (v := (Bo false)) (ev rfl) (ev rfl) (ev rfl)).mono ?_; rintro _ _ ⟨rfl, rfl⟩; refine ⟨?_, Ext.refl _⟩; skip
    cases hbb : β3
    all_goals first | (show _ = _; simp only [↓reduceIte, Bool.true_and, Bool.false_and, Bool.true_or, Bool.false_or, Bool.false_eq_true]; done) | (have e_ := h57_ hbb; subst e_; show _ = _; simp only [↓reduceIte, Bool.true_and, Bool.false_and, Bool.true_or, Bool.false_or, Bool.false_eq_true]; done) | rfl | (have e_ := h57_ hbb; subst e_; rfl) | (simp [hbb] at h57_ ⊢; first | done | rfl | (subst h57_; rfl) | simp_all) | (simp [hbb] at h57_ ⊢; done)
  refine RW_fin ?_; intro w76 E77 hP78
  obtain ⟨⟨⟨⟨⟨⟨⟨⟨⟨⟨⟨⟨⟨⟨⟨⟨⟨⟨⟨⟨⟨⟨⟨⟨⟨⟨⟨⟨⟨⟨⟨⟨⟨⟨⟨⟨⟨⟨⟨⟨⟨⟨⟨⟨⟨⟨⟨⟨⟨⟨⟨⟨⟨⟨⟨⟨-, -⟩, -⟩, -⟩, -⟩, -⟩, -⟩, -⟩, -⟩, -⟩, -⟩, -⟩, -⟩, -⟩, -⟩, -⟩, -⟩, -⟩, -⟩, -⟩, -⟩, -⟩, -⟩, -⟩, -⟩, -⟩, -⟩, -⟩, -⟩, -⟩, -⟩, -⟩, -⟩, -⟩, -⟩, -⟩, -⟩, -⟩, -⟩, -⟩, -⟩, -⟩, -⟩, -⟩, -⟩, -⟩, -⟩, -⟩, -⟩, -⟩, -⟩, -⟩, -⟩, -⟩, -⟩, -⟩, q79⟩ := hP78
  have X80 := Ext.gr X19 E77
  have q79 : v75 = (Bo (β3 && β4)) := q79
  obtain rfl := q79
  refine fz ?_
  refine ja (Bo (β3 && β4)) ?_
  refine wn K15 ?_
  refine wp_ret ?_
  refine ret_val (v := (Bo (β3 && β4))) (res_T rfl (slot rfl)) X80 ?_
  have x81 : (isGrid A_g) = (β3 && β4) := by first | with_reducible rfl | (simp only [isGrid, prod3, posF, h2, h4, h6, h8, hβ1, hβ2, hβ3, hβ4]; done) | (simp [isGrid, prod3, posF, h2, h4, h6, h8, hβ1, hβ2, hβ3, hβ4]; done) | rfl
  exact (by first | with_reducible rfl | rw [x81] | rfl)

/- spec.MeshOf -/
theorem c_spec_MeshOf (g : List Value) (A_g : GridT) (w : World) (hv_g : RGridT w A_g g) : Gives Try.prog 5 #[(.agg g.toArray)] w (fun v w' => ∃ cs_1 : List Value, v = (.tuple #[(.agg cs_1.toArray), (Bo (isGrid A_g))]) ∧ Hang w.heap.size w' (fun u => RMeshT u (mshM A_g) cs_1)) := by
  obtain ⟨r1, r3, r5, r7, y9, rfl, h2, h4, h6, h8, h10⟩ := hv_g
  have hs13 := h10; have hs13l := Sl.len h10; obtain ⟨p11, q12, rfl⟩ := Sl.shape h10
  refine enter [(.agg #[(Fl r1), (Fl r3), (Fl r5), (Fl r7), (Iv A_g.x), (Iv A_g.y), (Iv A_g.z), (.slice p11 A_g.vals.length q12)]), Ud, Ud, Ud, Ud, Ud, Ud, Ud] Try.func5 rfl Try.ntmps5 rfl ?_
  refine wr fun _ K14 => ?_
  refine sd (does_box (u := (.agg #[(Fl r1), (Fl r3), (Fl r5), (Fl r7), (Iv A_g.x), (Iv A_g.y), (Iv A_g.z), (.slice p11 A_g.vals.length q12)])) (ev rfl)) ?_; rintro _ w19 ⟨b15, rfl, hb16, hB17, E18⟩
  change Blk _ _ [(Fl r1), (Fl r3), (Fl r5), (Fl r7), (Iv A_g.x), (Iv A_g.y), (Iv A_g.z), (.slice p11 A_g.vals.length q12)] at hB17
  have X21 := Ext.gr (Ext.refl w) E18
  refine fz ?_
  refine sd (does_alloc z32) ?_; rintro _ w26 ⟨b22, rfl, hb23, hB24, E25⟩
  have g28 : w.heap.size ≤ b22 := Nat.le_trans (Below.size X21) hb23
  change Blk _ _ [(.slice none 0 0), (.slice none 0 0)] at hB24
  have X29 := Ext.gr X21 E25
  refine fz ?_
  refine ja (Bo false) ?_
  refine wn K14 ?_
  refine ws fun _ K30 => ?_
  refine wr fun _ K31 => ?_
  refine sd (does_call (args := #[(Pt b15 0)]) cal14 (evs rfl) (c_spec_l06Is b15 0 [(Fl r1), (Fl r3), (Fl r5), (Fl r7), (Iv A_g.x), (Iv A_g.y), (Iv A_g.z), (.slice p11 A_g.vals.length q12)] A_g _ (Blk.cells (hB17.ext E25)) ⟨r1, r3, r5, r7, (.slice p11 A_g.vals.length q12), rfl, h2, h4, h6, h8, (Sl.ext hs13 RF.mono X29)⟩)) ?_; rintro _ w33 ⟨E32, rfl⟩
  have X34 := Ext.gr X29 E32
  refine fz ?_
  refine jj (does_not (ev rfl)) ?_
  refine wn K31 ?_
  refine wp_cond_split (t := !(isGrid A_g)) (ev rfl) (fun c35 => ?_) (fun c35 => ?_)
  · rw [Bool.not_eq_true'] at c35
    have c35' := c35
    have hgf : isGrid A_g = false := c35
    refine wr fun _ K36 => ?_
    refine jj (does_build (parts' := []) (cells := #[(.slice none 0 0), (.slice none 0 0)]) (evp rfl) (by kernel_rfl)) ?_
    refine sn (does_store (n := 2) (cs := [(.slice none 0 0), (.slice none 0 0)]) (u := (.agg #[(.slice none 0 0), (.slice none 0 0)])) (ev rfl) (ev rfl) Try.sizeOf32 rfl (hB24.ext E32) (Nat.le_of_ble_eq_true rfl) rfl) ?_; rintro _ w39 ⟨rfl, W37, hB38⟩
    change Blk _ _ [(.slice none 0 0), (.slice none 0 0)] at hB38
    have X40 := Below.wr X34 W37 g28
    refine ja (Bo false) ?_
    refine wn K36 ?_
    refine wp_ret ?_
    dsimp only [Exit.then, Exit.inBlock]
    refine ret_val (v := (.tuple #[(.agg #[(.slice none 0 0), (.slice none 0 0)]), (Bo false)])) (res_CT rfl (slot rfl) (run_loadAgg (cs := [(.slice none 0 0), (.slice none 0 0)]) Try.isAgg32 Try.sizeOf32 (Blk.cells hB38) rfl) (slot rfl)) X40 ?_
    try simp only [h2, h4, h6, h8] at c35
    have x41 : (isGrid A_g) = false := by first | exact hgf | exact hgr | (rw [mshM_f hgf] <;> rfl) | (rw [mshM_t hgr] <;> rfl)
    have x42 : ([]) = ((mshM A_g).places) := by first | exact hgf | exact hgr | (rw [mshM_f hgf] <;> rfl) | (rw [mshM_t hgr] <;> rfl)
    have x43 : ([]) = ((mshM A_g).tris) := by first | exact hgf | exact hgr | (rw [mshM_f hgf] <;> rfl) | (rw [mshM_t hgr] <;> rfl)
    exact ⟨[(.slice none 0 0), (.slice none 0 0)], (by first | with_reducible rfl | rw [x41] | rfl), fun u hu => ⟨(.slice none 0 0), (.slice none 0 0), rfl, (Hang.castL (Sl.hang_nil _ _ _ _) x42) u hu, (Hang.castL (Sl.hang_nil _ _ _ _) x43) u hu⟩⟩
  rw [Bool.not_eq_false'] at c35
  have c35' := c35
  have hgr : isGrid A_g = true := c35
  have hgc := isGrid_cnt hgr
  refine wp_skip (K30 _ _ ?_)
  refine wr fun _ K44 => ?_
  refine sd (does_call (args := #[(Pt b15 0)]) cal15 (evs rfl) (c_spec_l07Mesh b15 0 [(Fl r1), (Fl r3), (Fl r5), (Fl r7), (Iv A_g.x), (Iv A_g.y), (Iv A_g.z), (.slice p11 A_g.vals.length q12)] A_g _ (Blk.cells ((hB17.ext E25).ext E32)) ⟨r1, r3, r5, r7, (.slice p11 A_g.vals.length q12), rfl, h2, h4, h6, h8, (Sl.ext hs13 RF.mono X34)⟩ (by exact hgr))) ?_; rintro _ w46 ⟨E45, ⟨cs48, rfl, hh47⟩⟩
  have X49 := Ext.gr X34 E45
  have n51 : b22 < w33.heap.size := Blk.lt (hB24.ext E32)
  obtain ⟨y52, y54, rfl, h53, h55⟩ := hh47.get
  have h53l := Sl.len h53; obtain ⟨p56, q57, rfl⟩ := Sl.shape h53
  have hh58 : Hang w33.heap.size w46 (fun u => Sl RV3 3 u (.slice p56 (((meshG A_g).places).length) q57) ((meshG A_g).places)) := fun u hu => by obtain ⟨_, _, hq, _, _⟩ := hh47 u hu; cases hq; assumption
  have h55l := Sl.len h55; obtain ⟨p59, q60, rfl⟩ := Sl.shape h55
  have hh61 : Hang w33.heap.size w46 (fun u => Sl (RS RI 1) 1 u (.slice p59 (((meshG A_g).tris).length) q60) ((meshG A_g).tris)) := fun u hu => by obtain ⟨_, _, hq, _, _⟩ := hh47 u hu; cases hq; assumption
  refine fz ?_
  refine sn (does_store (n := 2) (cs := [(.slice none 0 0), (.slice none 0 0)]) (u := (.agg #[(.slice p56 (((meshG A_g).places).length) q57), (.slice p59 (((meshG A_g).tris).length) q60)])) (ev rfl) (ev rfl) Try.sizeOf32 rfl ((hB24.ext E32).ext E45) (Nat.le_of_ble_eq_true rfl) rfl) ?_; rintro _ w64 ⟨rfl, W62, hB63⟩
  change Blk _ _ [(.slice p56 (((meshG A_g).places).length) q57), (.slice p59 (((meshG A_g).tris).length) q60)] at hB63
  have X65 := Below.wr X49 W62 g28
  refine ja (Bo true) ?_
  refine wn K44 ?_
  refine wp_ret ?_
  refine ret_val (v := (.tuple #[(.agg #[(.slice p56 (((meshG A_g).places).length) q57), (.slice p59 (((meshG A_g).tris).length) q60)]), (Bo true)])) (res_CT rfl (slot rfl) (run_loadAgg (cs := [(.slice p56 (((meshG A_g).places).length) q57), (.slice p59 (((meshG A_g).tris).length) q60)]) Try.isAgg32 Try.sizeOf32 (Blk.cells hB63) rfl) (slot rfl)) X65 ?_
  try simp only [h2, h4, h6, h8] at c35
  have x66 : (isGrid A_g) = true := by first | exact hgf | exact hgr | (rw [mshM_f hgf] <;> rfl) | (rw [mshM_t hgr] <;> rfl)
  have x67 : ((meshG A_g).places) = ((mshM A_g).places) := by first | exact hgf | exact hgr | (rw [mshM_f hgf] <;> rfl) | (rw [mshM_t hgr] <;> rfl)
  have x68 : ((meshG A_g).tris) = ((mshM A_g).tris) := by first | exact hgf | exact hgr | (rw [mshM_f hgf] <;> rfl) | (rw [mshM_t hgr] <;> rfl)
  exact ⟨[(.slice p56 (((meshG A_g).places).length) q57), (.slice p59 (((meshG A_g).tris).length) q60)], (by first | with_reducible rfl | rw [x66] | rfl), fun u hu => ⟨(.slice p56 (((meshG A_g).places).length) q57), (.slice p59 (((meshG A_g).tris).length) q60), rfl, (Hang.castL ((Hang.to hh58 ((Same.refl _ _).wr W62 (.inl n51))).le (Below.size (Ext.gr (Ext.gr (Ext.gr (Ext.refl _) E18) E25) E32))) x67) u hu, (Hang.castL ((Hang.to hh61 ((Same.refl _ _).wr W62 (.inl n51))).le (Below.size (Ext.gr (Ext.gr (Ext.gr (Ext.refl _) E18) E25) E32))) x68) u hu⟩⟩

/- laws.toVector -/
theorem c_laws_toVector (a : List Value) (A_a : V3) (w : World) (hv_a : RV3 w A_a a) : Gives Try.prog 16 #[(.agg a.toArray)] w (fun v w' => ∃ cs_1 : List Value, v = (.agg cs_1.toArray) ∧ RV3 w A_a cs_1) := by
  obtain ⟨r1, r3, r5, rfl, h2, h4, h6⟩ := hv_a
  refine enter [(.agg #[(Fl r1), (Fl r3), (Fl r5)]), Ud, Ud, Ud, Ud, Ud, Ud, Ud, Ud, Ud, Ud, Ud, Ud, Ud] Try.func16 rfl Try.ntmps16 rfl ?_
  refine wr fun _ K7 => ?_
  refine sd (does_box (u := (.agg #[(Fl r1), (Fl r3), (Fl r5)])) (ev rfl)) ?_; rintro _ w12 ⟨b8, rfl, hb9, hB10, E11⟩
  change Blk _ _ [(Fl r1), (Fl r3), (Fl r5)] at hB10
  have X14 := Ext.gr (Ext.refl w) E11
  refine fz ?_
  refine sd (does_alloc z35) ?_; rintro _ w19 ⟨b15, rfl, hb16, hB17, E18⟩
  have g21 : w.heap.size ≤ b15 := Nat.le_trans (Below.size X14) hb16
  change Blk _ _ [(Fl 0), (Fl 0), (Fl 0)] at hB17
  have X22 := Ext.gr X14 E18
  refine fz ?_
  refine wn K7 ?_
  refine wr fun _ K23 => ?_
  refine sd (does_alloc z35) ?_; rintro _ w28 ⟨b24, rfl, hb25, hB26, E27⟩
  have n29 : b8 < b24 := Nat.lt_of_lt_of_le (Blk.lt (hB10.ext E18)) hb25
  have n30 : b15 < b24 := Nat.lt_of_lt_of_le (Blk.lt hB17) hb25
  have g31 : w.heap.size ≤ b24 := Nat.le_trans (Below.size X22) hb25
  change Blk _ _ [(Fl 0), (Fl 0), (Fl 0)] at hB26
  have X32 := Ext.gr X22 E27
  refine fz ?_
  refine wn K23 ?_
  refine wr fun _ K33 => ?_
  refine jj (does_fieldAddr (ev rfl) fa24_0) ?_
  refine jj (does_load (u := (Fl r1)) (ev rfl) Try.isAgg22 (Cells.at (Blk.cells ((hB10.ext E18).ext E27)) 0 rfl)) ?_
  refine jj (does_fieldAddr (ev rfl) fa35_0) ?_
  refine sn (does_store (n := 1) (cs := [(Fl 0), (Fl 0), (Fl 0)]) (u := (Fl r1)) (ev rfl) (ev rfl) Try.sizeOf22 rfl hB26 (Nat.le_of_ble_eq_true rfl) rfl) ?_; rintro _ w36 ⟨rfl, W34, hB35⟩
  change Blk _ _ [(Fl r1), (Fl 0), (Fl 0)] at hB35
  have X37 := Below.wr X32 W34 g31
  refine wn K33 ?_
  refine wr fun _ K38 => ?_
  refine jj (does_fieldAddr (ev rfl) fa24_1) ?_
  refine jj (does_load (u := (Fl r3)) (ev rfl) Try.isAgg22 (Cells.at (Blk.cells (((hB10.ext E18).ext E27).wr W34 (Nat.ne_of_lt n29))) 1 rfl)) ?_
  refine jj (does_fieldAddr (ev rfl) fa35_1) ?_
  refine sn (does_store (n := 1) (cs := [(Fl r1), (Fl 0), (Fl 0)]) (u := (Fl r3)) (ev rfl) (ev rfl) Try.sizeOf22 rfl hB35 (Nat.le_of_ble_eq_true rfl) rfl) ?_; rintro _ w41 ⟨rfl, W39, hB40⟩
  change Blk _ _ [(Fl r1), (Fl r3), (Fl 0)] at hB40
  have X42 := Below.wr X37 W39 g31
  refine wn K38 ?_
  refine wr fun _ K43 => ?_
  refine jj (does_fieldAddr (ev rfl) fa24_2) ?_
  refine jj (does_load (u := (Fl r5)) (ev rfl) Try.isAgg22 (Cells.at (Blk.cells ((((hB10.ext E18).ext E27).wr W34 (Nat.ne_of_lt n29)).wr W39 (Nat.ne_of_lt n29))) 2 rfl)) ?_
  refine jj (does_fieldAddr (ev rfl) fa35_2) ?_
  refine sn (does_store (n := 1) (cs := [(Fl r1), (Fl r3), (Fl 0)]) (u := (Fl r5)) (ev rfl) (ev rfl) Try.sizeOf22 rfl hB40 (Nat.le_of_ble_eq_true rfl) rfl) ?_; rintro _ w46 ⟨rfl, W44, hB45⟩
  change Blk _ _ [(Fl r1), (Fl r3), (Fl r5)] at hB45
  have X47 := Below.wr X42 W44 g31
  refine wn K43 ?_
  refine wr fun _ K48 => ?_
  refine jj (does_loadAgg (cs := [(Fl r1), (Fl r3), (Fl r5)]) (ev rfl) Try.isAgg35 Try.sizeOf35 (Blk.cells hB45) rfl) ?_
  refine sn (does_store (n := 3) (cs := [(Fl 0), (Fl 0), (Fl 0)]) (u := (.agg #[(Fl r1), (Fl r3), (Fl r5)])) (ev rfl) (ev rfl) Try.sizeOf35 rfl ((((hB17.ext E27).wr W34 (Nat.ne_of_lt n30)).wr W39 (Nat.ne_of_lt n30)).wr W44 (Nat.ne_of_lt n30)) (Nat.le_of_ble_eq_true rfl) rfl) ?_; rintro _ w51 ⟨rfl, W49, hB50⟩
  change Blk _ _ [(Fl r1), (Fl r3), (Fl r5)] at hB50
  have X52 := Below.wr X47 W49 g21
  refine wn K48 ?_
  refine wp_ret ?_
  refine ret_val (v := (.agg #[(Fl r1), (Fl r3), (Fl r5)])) (res_C rfl (slot rfl) (run_loadAgg (cs := [(Fl r1), (Fl r3), (Fl r5)]) Try.isAgg35 Try.sizeOf35 (Blk.cells hB50) rfl)) X52 ?_
  exact ⟨[(Fl r1), (Fl r3), (Fl r5)], rfl, ⟨r1, r3, r5, rfl, h2, h4, h6⟩⟩

/- laws.toFloat32S -/
theorem c_laws_toFloat32S (a : Value) (L_a : List Nat) (w : World) (hv_a : Sl RF 1 w a L_a) (hsz : L_a.length ≤ 1048576) : Gives Try.prog 17 #[a] w (fun v w' => ∃ y_1 : Value, ∃ Lw_2 : List Nat, v = y_1 ∧ Hang w.heap.size w' (fun u => Sl RF 1 u y_1 L_a) ∧ WL 1 w.heap.size w' Lw_2 y_1 L_a.length) := by
  have hlen_a := Sl.len hv_a; obtain ⟨p_a, q_a, rfl⟩ := Sl.shape hv_a
  refine enter [(.slice p_a L_a.length q_a), Ud, Ud, Ud, Ud, Ud, Ud, Ud, Ud, Ud, Ud, Ud, Ud, Ud, Ud, Ud, Ud, Ud, Ud, Ud, Ud, Ud] Try.func17 rfl Try.ntmps17 rfl ?_
  refine wr fun _ K1 => ?_
  refine ja (.slice none 0 0) ?_
  refine wn K1 ?_
  refine wr fun _ K2 => ?_
  refine jm (.slice p_a L_a.length q_a) ?_
  refine jj (does_len_slice Try.underlying25 (ev rfl)) ?_
  refine sd (does_makeSlice (n := L_a.length) Try.underlying25 inf22 (ev rfl) (ev rfl) (by omega)) ?_; rintro _ w7 ⟨b3, rfl, hb4, ⟨cs8, hB5, hl9, hz10⟩, E6⟩
  have g11 : w.heap.size ≤ b3 := Nat.le_trans (Below.size (Ext.refl w)) hb4
  have X12 := Ext.gr (Ext.refl w) E6
  refine fz ?_
  refine ja (.slice (some ⟨b3, 0, none⟩) L_a.length L_a.length) ?_
  refine wn K2 ?_
  refine ws fun _ K13 => ?_
  refine wr fun _ K14 => ?_
  refine ja (Iv 0) ?_
  refine wn K14 ?_
  refine wp_block ?_
  have hF0 : Fill RF 1 w7 b3 L_a.length L_a 0 := Fill.zero hB5 hl9
  refine loop_ghost (σ := Nat) (fun k a w' => ∃ u15 : Nat → Value, a = fr [(.slice p_a L_a.length q_a), Ud, (.slice none 0 0), (.slice (some ⟨b3, 0, none⟩) L_a.length L_a.length), (Iv (k : Int)), (.slice p_a L_a.length q_a), (Iv (L_a.length : Int)), (.slice (some ⟨b3, 0, none⟩) L_a.length L_a.length), (u15 8), (u15 9), (u15 10), (u15 11), (u15 12), (u15 13), (u15 14), (u15 15), (u15 16), (u15 17), (u15 18), (u15 19), (u15 20), Ud] ∧ KpL [b3] w7 w' ∧ Fill RF 1 w' b3 L_a.length L_a k ∧ (k ≤ L_a.length)) (fun k => L_a.length - k) 0 ?_ ?_
  · refine ⟨pk [], rfl, KpL.refl _ _, hF0, ?_⟩
    exact Nat.zero_le _
  · rintro k a w16 ⟨u15, rfl, E17, hF18, hk⟩
    have X19 := Below.kl X12 E17 (allS g11 all0) (Nat.le_refl _)
    refine ws fun _ K20 => ?_
    refine wr fun _ K21 => ?_
    refine jm (Iv (k : Int)) ?_
    refine jm (.slice p_a L_a.length q_a) ?_
    refine jj (does_len_slice Try.underlying25 (ev rfl)) ?_
    refine jj (does_icmp (p := (k : Int)) (q := (L_a.length : Int)) (.inr (.inr (.inl rfl))) (ev rfl) (ev rfl)) ?_
    refine wn K21 ?_
    refine wp_cond_split (t := icmp .lss (k : Int) (L_a.length : Int)) (ev rfl) (fun c22 => ?_) (fun c22 => ?_)
    · have c22' := c22
      (try simp only [icmp, bs] at c22')
      refine wp_skip (K20 _ _ ?_)
      refine ws fun _ K23 => ?_
      refine wp_block ?_
      refine wp_region_lit ?_
      refine jm (.slice (some ⟨b3, 0, none⟩) L_a.length L_a.length) ?_
      refine jm (Iv (k : Int)) ?_
      refine jm (.slice p_a L_a.length q_a) ?_
      refine jm (Iv (k : Int)) ?_
      obtain ⟨el1, hel1⟩ : ∃ e, L_a[k]? = some e := ⟨_, List.getElem?_eq_getElem (by omega)⟩
      refine sd (does_indexSl (R := RF) (i := (k : Int)) (xs := L_a) (e := el1) Try.underlying25 Try.sizeOf22 (ev rfl) (ev rfl) (Sl.ext hv_a RF.mono X19) (by omega) hel1) ?_; rintro _ w16 ⟨b24, o25, _, rfl, hc27, ⟨r28, rfl, h29⟩, rfl⟩
      refine fz ?_
      refine jj (does_load (u := (Fl r28)) (ev rfl) Try.isAgg22 (Cells.at hc27 0 rfl)) ?_
      refine jj (does_indexOwn (b := b3) (n := L_a.length) (i := (k : Int)) Try.underlying25 Try.sizeOf22 (ev rfl) (ev rfl) (by omega) (by omega)) ?_
      refine sn (does_fill (R := RF) (k := 1) (n := L_a.length) (j := k) (xs := L_a) (u := (Fl r28)) (e := el1) (ev rfl) (ev rfl) Try.sizeOf22 rfl rfl hF18 (by omega) hel1 (fun _ => ⟨_, rfl, h29⟩) (fun _ _ _ _ h => h)) ?_; rintro _ w32 ⟨rfl, W30, hF31⟩
      refine wn K23 ?_
      refine wp_region_lit ?_
      refine jm (Iv (k : Int)) ?_
      refine jj (does_iarith (p := (k : Int)) (q := 1) (r := (k : Int) + 1) (ev rfl) (ev rfl) (.inl ⟨rfl, (in_i64 (by omega) (by omega)).symm⟩)) ?_
      refine ja (Iv ((k : Int) + 1)) ?_
      refine wpList_nil ?_
      refine ⟨k + 1, ⟨pk [(8, Iv (k : Int)), (9, (.slice p_a L_a.length q_a)), (10, Iv (L_a.length : Int)), (11, Bo (icmp .lss (k : Int) (L_a.length : Int))), (12, Iv (k : Int)), (13, Iv ((k : Int) + 1)), (14, (.slice (some ⟨b3, 0, none⟩) L_a.length L_a.length)), (15, Iv (k : Int)), (16, (.slice p_a L_a.length q_a)), (17, Iv (k : Int)), (18, Pt b24 o25), (19, Fl r28), (20, Pt b3 (k * 1))], ?_, (KpL.more E17 (KpL.of_wr W30) (allS (.inl (by simp)) all0)), hF31, ?_⟩, ?_⟩
      · first | rfl | (simp only [Int.natCast_add, Int.natCast_one]; rfl)
      · omega
      · omega
    have c22' := c22
    (try simp only [icmp, bs] at c22')
    refine wp_exit ?_
    refine K13 _ _ ?_
    refine wr fun _ K34 => ?_
    refine jm (.slice (some ⟨b3, 0, none⟩) L_a.length L_a.length) ?_
    refine ja (.slice (some ⟨b3, 0, none⟩) L_a.length L_a.length) ?_
    refine wn K34 ?_
    refine wp_ret ?_
    refine ret_val (v := (.slice (some ⟨b3, 0, none⟩) L_a.length L_a.length)) (res_T rfl (slot rfl)) X19 ?_
    exact ⟨(.slice (some ⟨b3, 0, none⟩) L_a.length L_a.length), [b3], rfl, (Fill.hang hF18 RF.flat g11 (by omega) rfl (by omega) (by decide)), (Fill.wl hF18 g11)⟩

/- laws.toGrid -/
theorem c_laws_toGrid (a : List Value) (A_a : GridT) (w : World) (hv_a : RGridT w A_a a) (hsz : A_a.vals.length ≤ 1048576) : Gives Try.prog 6 #[(.agg a.toArray)] w (fun v w' => ∃ cs_1 : List Value, ∃ Lw_2 : List Nat, v = (.agg cs_1.toArray) ∧ Hang w.heap.size w' (fun u => RGridT u A_a cs_1) ∧ WL 1 w.heap.size w' Lw_2 (cellN cs_1 7) A_a.vals.length) := by
  obtain ⟨r1, r3, r5, r7, y9, rfl, h2, h4, h6, h8, h10⟩ := hv_a
  have hs13 := h10; have hs13l := Sl.len h10; obtain ⟨p11, q12, rfl⟩ := Sl.shape h10
  refine enter [(.agg #[(Fl r1), (Fl r3), (Fl r5), (Fl r7), (Iv A_a.x), (Iv A_a.y), (Iv A_a.z), (.slice p11 A_a.vals.length q12)]), Ud, Ud, Ud, Ud, Ud, Ud, Ud, Ud, Ud, Ud, Ud, Ud, Ud, Ud, Ud, Ud, Ud, Ud, Ud, Ud, Ud, Ud, Ud, Ud] Try.func6 rfl Try.ntmps6 rfl ?_
  refine wr fun _ K14 => ?_
  refine sd (does_box (u := (.agg #[(Fl r1), (Fl r3), (Fl r5), (Fl r7), (Iv A_a.x), (Iv A_a.y), (Iv A_a.z), (.slice p11 A_a.vals.length q12)])) (ev rfl)) ?_; rintro _ w19 ⟨b15, rfl, hb16, hB17, E18⟩
  change Blk _ _ [(Fl r1), (Fl r3), (Fl r5), (Fl r7), (Iv A_a.x), (Iv A_a.y), (Iv A_a.z), (.slice p11 A_a.vals.length q12)] at hB17
  have X21 := Ext.gr (Ext.refl w) E18
  refine fz ?_
  refine sd (does_alloc z37) ?_; rintro _ w26 ⟨b22, rfl, hb23, hB24, E25⟩
  have g28 : w.heap.size ≤ b22 := Nat.le_trans (Below.size X21) hb23
  change Blk _ _ [(Fl 0), (Fl 0), (Fl 0), (Fl 0), (Iv 0), (Iv 0), (Iv 0), (.slice none 0 0)] at hB24
  have X29 := Ext.gr X21 E25
  refine fz ?_
  refine wn K14 ?_
  refine wr fun _ K30 => ?_
  refine sd (does_alloc z37) ?_; rintro _ w35 ⟨b31, rfl, hb32, hB33, E34⟩
  have n36 : b15 < b31 := Nat.lt_of_lt_of_le (Blk.lt (hB17.ext E25)) hb32
  have n37 : b22 < b31 := Nat.lt_of_lt_of_le (Blk.lt hB24) hb32
  have g38 : w.heap.size ≤ b31 := Nat.le_trans (Below.size X29) hb32
  change Blk _ _ [(Fl 0), (Fl 0), (Fl 0), (Fl 0), (Iv 0), (Iv 0), (Iv 0), (.slice none 0 0)] at hB33
  have X39 := Ext.gr X29 E34
  refine fz ?_
  refine wn K30 ?_
  refine wr fun _ K40 => ?_
  refine jj (does_fieldAddr (ev rfl) fa27_0) ?_
  refine jj (does_loadAgg (cs := [(Fl r1), (Fl r3), (Fl r5)]) (ev rfl) Try.isAgg24 Try.sizeOf24 (Cells.sub (Blk.cells ((hB17.ext E25).ext E34)) 0 3) rfl) ?_
  refine sd (does_call (args := #[(.agg #[(Fl r1), (Fl r3), (Fl r5)])]) cal16 (evs rfl) (c_laws_toVector [(Fl r1), (Fl r3), (Fl r5)] A_a.low _ ⟨r1, r3, r5, rfl, h2, h4, h6⟩)) ?_; rintro _ w42 ⟨E41, ⟨_, rfl, ⟨r43, r45, r47, rfl, h44, h46, h48⟩⟩⟩
  have X49 := Ext.gr X39 E41
  refine fz ?_
  refine jj (does_fieldAddr (ev rfl) fa37_0) ?_
  refine sn (does_store (n := 3) (cs := [(Fl 0), (Fl 0), (Fl 0), (Fl 0), (Iv 0), (Iv 0), (Iv 0), (.slice none 0 0)]) (u := (.agg #[(Fl r43), (Fl r45), (Fl r47)])) (ev rfl) (ev rfl) Try.sizeOf35 rfl (hB33.ext E41) (Nat.le_of_ble_eq_true rfl) rfl) ?_; rintro _ w52 ⟨rfl, W50, hB51⟩
  change Blk _ _ [(Fl r43), (Fl r45), (Fl r47), (Fl 0), (Iv 0), (Iv 0), (Iv 0), (.slice none 0 0)] at hB51
  have X53 := Below.wr X49 W50 g38
  refine wn K40 ?_
  refine wr fun _ K54 => ?_
  refine jj (does_fieldAddr (ev rfl) fa27_1) ?_
  refine jj (does_load (u := (Fl r7)) (ev rfl) Try.isAgg22 (Cells.at (Blk.cells ((((hB17.ext E25).ext E34).ext E41).wr W50 (Nat.ne_of_lt n36))) 3 rfl)) ?_
  refine jj (does_fieldAddr (ev rfl) fa37_1) ?_
  refine sn (does_store (n := 1) (cs := [(Fl r43), (Fl r45), (Fl r47), (Fl 0), (Iv 0), (Iv 0), (Iv 0), (.slice none 0 0)]) (u := (Fl r7)) (ev rfl) (ev rfl) Try.sizeOf22 rfl hB51 (Nat.le_of_ble_eq_true rfl) rfl) ?_; rintro _ w57 ⟨rfl, W55, hB56⟩
  change Blk _ _ [(Fl r43), (Fl r45), (Fl r47), (Fl r7), (Iv 0), (Iv 0), (Iv 0), (.slice none 0 0)] at hB56
  have X58 := Below.wr X53 W55 g38
  refine wn K54 ?_
  refine wr fun _ K59 => ?_
  refine jj (does_fieldAddr (ev rfl) fa27_2) ?_
  refine jj (does_load (u := (Iv A_a.x)) (ev rfl) Try.isAgg2 (Cells.at (Blk.cells (((((hB17.ext E25).ext E34).ext E41).wr W50 (Nat.ne_of_lt n36)).wr W55 (Nat.ne_of_lt n36))) 4 rfl)) ?_
  refine jj (does_fieldAddr (ev rfl) fa37_2) ?_
  refine sn (does_store (n := 1) (cs := [(Fl r43), (Fl r45), (Fl r47), (Fl r7), (Iv 0), (Iv 0), (Iv 0), (.slice none 0 0)]) (u := (Iv A_a.x)) (ev rfl) (ev rfl) Try.sizeOf2 rfl hB56 (Nat.le_of_ble_eq_true rfl) rfl) ?_; rintro _ w62 ⟨rfl, W60, hB61⟩
  change Blk _ _ [(Fl r43), (Fl r45), (Fl r47), (Fl r7), (Iv A_a.x), (Iv 0), (Iv 0), (.slice none 0 0)] at hB61
  have X63 := Below.wr X58 W60 g38
  refine wn K59 ?_
  refine wr fun _ K64 => ?_
  refine jj (does_fieldAddr (ev rfl) fa27_3) ?_
  refine jj (does_load (u := (Iv A_a.y)) (ev rfl) Try.isAgg2 (Cells.at (Blk.cells ((((((hB17.ext E25).ext E34).ext E41).wr W50 (Nat.ne_of_lt n36)).wr W55 (Nat.ne_of_lt n36)).wr W60 (Nat.ne_of_lt n36))) 5 rfl)) ?_
  refine jj (does_fieldAddr (ev rfl) fa37_3) ?_
  refine sn (does_store (n := 1) (cs := [(Fl r43), (Fl r45), (Fl r47), (Fl r7), (Iv A_a.x), (Iv 0), (Iv 0), (.slice none 0 0)]) (u := (Iv A_a.y)) (ev rfl) (ev rfl) Try.sizeOf2 rfl hB61 (Nat.le_of_ble_eq_true rfl) rfl) ?_; rintro _ w67 ⟨rfl, W65, hB66⟩
  change Blk _ _ [(Fl r43), (Fl r45), (Fl r47), (Fl r7), (Iv A_a.x), (Iv A_a.y), (Iv 0), (.slice none 0 0)] at hB66
  have X68 := Below.wr X63 W65 g38
  refine wn K64 ?_
  refine wr fun _ K69 => ?_
  refine jj (does_fieldAddr (ev rfl) fa27_4) ?_
  refine jj (does_load (u := (Iv A_a.z)) (ev rfl) Try.isAgg2 (Cells.at (Blk.cells (((((((hB17.ext E25).ext E34).ext E41).wr W50 (Nat.ne_of_lt n36)).wr W55 (Nat.ne_of_lt n36)).wr W60 (Nat.ne_of_lt n36)).wr W65 (Nat.ne_of_lt n36))) 6 rfl)) ?_
  refine jj (does_fieldAddr (ev rfl) fa37_4) ?_
  refine sn (does_store (n := 1) (cs := [(Fl r43), (Fl r45), (Fl r47), (Fl r7), (Iv A_a.x), (Iv A_a.y), (Iv 0), (.slice none 0 0)]) (u := (Iv A_a.z)) (ev rfl) (ev rfl) Try.sizeOf2 rfl hB66 (Nat.le_of_ble_eq_true rfl) rfl) ?_; rintro _ w72 ⟨rfl, W70, hB71⟩
  change Blk _ _ [(Fl r43), (Fl r45), (Fl r47), (Fl r7), (Iv A_a.x), (Iv A_a.y), (Iv A_a.z), (.slice none 0 0)] at hB71
  have X73 := Below.wr X68 W70 g38
  refine wn K69 ?_
  refine wr fun _ K74 => ?_
  refine jj (does_fieldAddr (ev rfl) fa27_5) ?_
  refine jj (does_load (u := (.slice p11 A_a.vals.length q12)) (ev rfl) Try.isAgg25 (Cells.at (Blk.cells ((((((((hB17.ext E25).ext E34).ext E41).wr W50 (Nat.ne_of_lt n36)).wr W55 (Nat.ne_of_lt n36)).wr W60 (Nat.ne_of_lt n36)).wr W65 (Nat.ne_of_lt n36)).wr W70 (Nat.ne_of_lt n36))) 7 rfl)) ?_
  refine sd (does_call (args := #[(.slice p11 A_a.vals.length q12)]) cal17 (evs rfl) (c_laws_toFloat32S (.slice p11 A_a.vals.length q12) A_a.vals _ (Sl.ext hs13 RF.mono X73) (by omega))) ?_; rintro _ w76 ⟨E75, ⟨y78, Lw79, rfl, hh77, hw80⟩⟩
  have X81 := Ext.gr X73 E75
  have n83 : b22 < w72.heap.size := Blk.lt (((((((hB24.ext E34).ext E41).wr W50 (Nat.ne_of_lt n37)).wr W55 (Nat.ne_of_lt n37)).wr W60 (Nat.ne_of_lt n37)).wr W65 (Nat.ne_of_lt n37)).wr W70 (Nat.ne_of_lt n37))
  have n84 : b31 < w72.heap.size := Blk.lt hB71
  obtain ⟨p85, q86, rfl⟩ := Sl.shape hh77.get
  have hw87 : WL 1 w72.heap.size w76 Lw79 (.slice p85 A_a.vals.length q86) A_a.vals.length := hw80
  refine fz ?_
  refine jj (does_fieldAddr (ev rfl) fa37_5) ?_
  refine sn (does_store (n := 1) (cs := [(Fl r43), (Fl r45), (Fl r47), (Fl r7), (Iv A_a.x), (Iv A_a.y), (Iv A_a.z), (.slice none 0 0)]) (u := (.slice p85 A_a.vals.length q86)) (ev rfl) (ev rfl) Try.sizeOf25 rfl (hB71.ext E75) (Nat.le_of_ble_eq_true rfl) rfl) ?_; rintro _ w90 ⟨rfl, W88, hB89⟩
  change Blk _ _ [(Fl r43), (Fl r45), (Fl r47), (Fl r7), (Iv A_a.x), (Iv A_a.y), (Iv A_a.z), (.slice p85 A_a.vals.length q86)] at hB89
  have X91 := Below.wr X81 W88 g38
  refine wn K74 ?_
  refine wr fun _ K92 => ?_
  refine jj (does_loadAgg (cs := [(Fl r43), (Fl r45), (Fl r47), (Fl r7), (Iv A_a.x), (Iv A_a.y), (Iv A_a.z), (.slice p85 A_a.vals.length q86)]) (ev rfl) Try.isAgg37 Try.sizeOf37 (Blk.cells hB89) rfl) ?_
  refine sn (does_store (n := 8) (cs := [(Fl 0), (Fl 0), (Fl 0), (Fl 0), (Iv 0), (Iv 0), (Iv 0), (.slice none 0 0)]) (u := (.agg #[(Fl r43), (Fl r45), (Fl r47), (Fl r7), (Iv A_a.x), (Iv A_a.y), (Iv A_a.z), (.slice p85 A_a.vals.length q86)])) (ev rfl) (ev rfl) Try.sizeOf37 rfl (((((((((hB24.ext E34).ext E41).wr W50 (Nat.ne_of_lt n37)).wr W55 (Nat.ne_of_lt n37)).wr W60 (Nat.ne_of_lt n37)).wr W65 (Nat.ne_of_lt n37)).wr W70 (Nat.ne_of_lt n37)).ext E75).wr W88 (Nat.ne_of_lt n37)) (Nat.le_of_ble_eq_true rfl) rfl) ?_; rintro _ w95 ⟨rfl, W93, hB94⟩
  change Blk _ _ [(Fl r43), (Fl r45), (Fl r47), (Fl r7), (Iv A_a.x), (Iv A_a.y), (Iv A_a.z), (.slice p85 A_a.vals.length q86)] at hB94
  have X96 := Below.wr X91 W93 g28
  refine wn K92 ?_
  refine wp_ret ?_
  refine ret_val (v := (.agg #[(Fl r43), (Fl r45), (Fl r47), (Fl r7), (Iv A_a.x), (Iv A_a.y), (Iv A_a.z), (.slice p85 A_a.vals.length q86)])) (res_C rfl (slot rfl) (run_loadAgg (cs := [(Fl r43), (Fl r45), (Fl r47), (Fl r7), (Iv A_a.x), (Iv A_a.y), (Iv A_a.z), (.slice p85 A_a.vals.length q86)]) Try.isAgg37 Try.sizeOf37 (Blk.cells hB94) rfl)) X96 ?_
  exact ⟨[(Fl r43), (Fl r45), (Fl r47), (Fl r7), (Iv A_a.x), (Iv A_a.y), (Iv A_a.z), (.slice p85 A_a.vals.length q86)], Lw79, rfl, fun u hu => ⟨r43, r45, r47, r7, (.slice p85 A_a.vals.length q86), rfl, h44, h46, h48, h8, ((Hang.to hh77 (((Same.refl _ _).wr W88 (.inl n84)).wr W93 (.inl n83))).le (Below.size (Below.wr (Below.wr (Below.wr (Below.wr (Below.wr (Ext.gr (Ext.gr (Ext.gr (Ext.gr (Ext.refl _) E18) E25) E34) E41) W50 g38) W55 g38) W60 g38) W65 g38) W70 g38))) u hu⟩, ((hw87.same (((Same.refl _ _).wr W88 (.inl n84)).wr W93 (.inl n83))).le (Below.size (Below.wr (Below.wr (Below.wr (Below.wr (Below.wr (Ext.gr (Ext.gr (Ext.gr (Ext.gr (Ext.refl _) E18) E25) E34) E41) W50 g38) W55 g38) W60 g38) W65 g38) W70 g38)))⟩

/- laws.sameFloat -/
theorem c_laws_sameFloat (x : Nat) (y : Nat) (w : World) : Gives Try.prog 24 #[(Fd x), (Fd y)] w (fun v w' => v = (Bo (sameF (cf .f64 x) (cf .f64 y)))) := by
  refine enter [(Fd x), (Fd y), Ud, Ud, Ud, Ud, Ud, Ud, Ud, Ud, Ud, Ud, Ud, Ud, Ud, Ud, Ud, Ud, Ud, Ud, Ud, Ud, Ud, Ud, Ud, Ud, Ud, Ud, Ud, Ud, Ud, Ud, Ud, Ud, Ud, Ud, Ud] Try.func24 rfl Try.ntmps24 rfl ?_
  refine wr fun _ K1 => ?_
  refine ja (Bo false) ?_
  refine wn K1 ?_
  refine ws fun _ K2 => ?_
  refine ws fun _ K3 => ?_
  obtain ⟨β1, hβ1⟩ : ∃ b : Bool, b = (fcmp .neq (ford .f64 (cf .f64 x) (cf .f64 x))) := ⟨_, rfl⟩
  obtain ⟨β2, hβ2⟩ : ∃ b : Bool, b = (fcmp .neq (ford .f64 (cf .f64 y) (cf .f64 y))) := ⟨_, rfl⟩
  refine region_text (
    [Fact.pure [] (fun v => v = (Fd x)),
    Fact.pure [] (fun v => v = (Fd x)),
    Fact.pure [5, 6] (fun v => v = (Bo β1)),
    Fact.pure [7] (fun v => v = (Bo β1)),
    Fact.pure [8] (fun v => β1 = false → v = (Fd y)),
    Fact.pure [8] (fun v => β1 = false → v = (Fd y)),
    Fact.pure [9, 10, 8] (fun v => β1 = false → v = (Bo β2)),
    Fact.pure [8, 11] (fun v => v = (Bo (β1 || β2)))]) (by simp [Fact.pure, Fact.mem]) ?_
  refine R_p (fun u hu _ => does_move (u := (Fd x)) (ev rfl)) fun v4 => ?_
  refine R_p (fun u hu _ => does_move (u := (Fd x)) (ev rfl)) fun v5 => ?_
  refine R_d (fun u hu hF => ?_) (fun v6 => ?_)
  · have h5_ : v4 = (Fd x) := hF.1
    have h6_ : v5 = (Fd x) := hF.2.1
    clear hF
    refine doesG_un rfl ?_
    obtain rfl := h5_
    obtain rfl := h6_
    refine (does_fcmp (.inr (.inl rfl)) (ev rfl) (ev rfl)).mono ?_; rintro _ _ ⟨rfl, rfl⟩
    exact ⟨(by first | rfl | (show _ = _; simp only [hβ1]; done) | (show _ = _; simp only [hβ1]; rfl)), Ext.refl _⟩
  refine R_p (fun u hu hF => ?_) fun v7 => ?_
  · have h7_ : v6 = (Bo β1) := hF.1
    clear hF; subst h7_
    exact does_move (u := (Bo β1)) (ev rfl)
  refine R_d (fun u hu hF => ?_) (fun v8 => ?_)
  · have h8_ : v7 = (Bo β1) := hF.1
    clear hF
    obtain rfl := h8_
    refine doesG_g (b := β1) rfl (yld rfl rfl) (fun hg1 => ?_) (fun hc => ⟨fun hg1 => absurd hg1 hc, Ext.refl _⟩)
    refine (does_move (u := (Fd y)) (ev rfl)).mono ?_; rintro _ _ ⟨rfl, rfl⟩
    exact ⟨fun _ => rfl, Ext.refl _⟩
  refine R_d (fun u hu hF => ?_) (fun v9 => ?_)
  · have h8_ : v7 = (Bo β1) := hF.1
    clear hF
    obtain rfl := h8_
    refine doesG_g (b := β1) rfl (yld rfl rfl) (fun hg1 => ?_) (fun hc => ⟨fun hg1 => absurd hg1 hc, Ext.refl _⟩)
    refine (does_move (u := (Fd y)) (ev rfl)).mono ?_; rintro _ _ ⟨rfl, rfl⟩
    exact ⟨fun _ => rfl, Ext.refl _⟩
  refine R_d (fun u hu hF => ?_) (fun v10 => ?_)
  · have h9_ : β1 = false → v8 = (Fd y) := hF.1
    have h10_ : β1 = false → v9 = (Fd y) := hF.2.1
    have h8_ : v7 = (Bo β1) := hF.2.2.1
    clear hF
    obtain rfl := h8_
    refine doesG_g (b := β1) rfl (yld rfl rfl) (fun hg1 => ?_) (fun hc => ⟨fun hg1 => absurd hg1 hc, Ext.refl _⟩)
    obtain rfl := h9_ hg1
    obtain rfl := h10_ hg1
    refine (does_fcmp (.inr (.inl rfl)) (ev rfl) (ev rfl)).mono ?_; rintro _ _ ⟨rfl, rfl⟩
    exact ⟨fun _ => (by first | rfl | (show _ = _; simp only [hβ2]; done) | (show _ = _; simp only [hβ2]; rfl)), Ext.refl _⟩
  refine R_d (fun u hu hF => ?_) (fun v11 => ?_)
  · have h8_ : v7 = (Bo β1) := hF.1
    have h11_ : β1 = false → v10 = (Bo β2) := hF.2.1
    clear hF
    refine doesG_un rfl ?_
    skip
    obtain rfl := h8_
    refine (does_pick (b := β1) (u := (Bo true)) (v := v10) (ev rfl) (ev rfl) (ev rfl)).mono ?_; rintro _ _ ⟨rfl, rfl⟩; refine ⟨?_, Ext.refl _⟩; skip
    cases hbb : β1
    all_goals first | (show _ = _; simp only [↓reduceIte, Bool.true_and, Bool.false_and, Bool.true_or, Bool.false_or, Bool.false_eq_true]; done) | (have e_ := h11_ hbb; subst e_; show _ = _; simp only [↓reduceIte, Bool.true_and, Bool.false_and, Bool.true_or, Bool.false_or, Bool.false_eq_true]; done) | rfl | (have e_ := h11_ hbb; subst e_; rfl) | (simp [hbb] at h11_ ⊢; first | done | rfl | (subst h11_; rfl) | simp_all) | (simp [hbb] at h11_ ⊢; done)
  refine RW_fin ?_; intro w12 E13 hP14
  obtain ⟨⟨⟨⟨⟨⟨⟨⟨-, -⟩, -⟩, -⟩, -⟩, -⟩, -⟩, -⟩, q15⟩ := hP14
  have X16 := Ext.gr (Ext.refl w) E13
  have q15 : v11 = (Bo (β1 || β2)) := q15
  obtain rfl := q15
  refine fz ?_
  refine wn K3 ?_
  refine wp_cond_split (t := β1 || β2) (ev rfl) (fun c17 => ?_) (fun c17 => ?_)
  · have c17' := c17
    (try simp only [hβ1, hβ2] at c17')
    (try simp only [icmp, bs] at c17')
    refine ws fun _ K18 => ?_
    obtain ⟨β3, hβ3⟩ : ∃ b : Bool, b = (fcmp .neq (ford .f64 (cf .f64 x) (cf .f64 x))) := ⟨_, rfl⟩
    obtain ⟨β4, hβ4⟩ : ∃ b : Bool, b = (fcmp .neq (ford .f64 (cf .f64 y) (cf .f64 y))) := ⟨_, rfl⟩
    refine region_text (
      [Fact.pure [] (fun v => v = (Fd x)),
    Fact.pure [] (fun v => v = (Fd x)),
    Fact.pure [13, 14] (fun v => v = (Bo β3)),
    Fact.pure [15] (fun v => v = (Bo β3)),
    Fact.pure [16] (fun v => β3 = true → v = (Fd y)),
    Fact.pure [16] (fun v => β3 = true → v = (Fd y)),
    Fact.pure [17, 18, 16] (fun v => β3 = true → v = (Bo β4)),
    Fact.pure [16, 19] (fun v => v = (Bo (β3 && β4)))]) (by simp [Fact.pure, Fact.mem]) ?_
    refine R_p (fun u hu _ => does_move (u := (Fd x)) (ev rfl)) fun v19 => ?_
    refine R_p (fun u hu _ => does_move (u := (Fd x)) (ev rfl)) fun v20 => ?_
    refine R_d (fun u hu hF => ?_) (fun v21 => ?_)
    · have h13_ : v19 = (Fd x) := hF.1
      have h14_ : v20 = (Fd x) := hF.2.1
      clear hF
      refine doesG_un rfl ?_
      obtain rfl := h13_
      obtain rfl := h14_
      refine (does_fcmp (.inr (.inl rfl)) (ev rfl) (ev rfl)).mono ?_; rintro _ _ ⟨rfl, rfl⟩
      exact ⟨(by first | rfl | (show _ = _; simp only [hβ3]; done) | (show _ = _; simp only [hβ3]; rfl)), Ext.refl _⟩
    refine R_p (fun u hu hF => ?_) fun v22 => ?_
    · have h15_ : v21 = (Bo β3) := hF.1
      clear hF; subst h15_
      exact does_move (u := (Bo β3)) (ev rfl)
    refine R_d (fun u hu hF => ?_) (fun v23 => ?_)
    · have h16_ : v22 = (Bo β3) := hF.1
      clear hF
      obtain rfl := h16_
      refine doesG_g (b := β3) rfl (yld rfl rfl) (fun hg1 => ?_) (fun hc => ⟨fun hg1 => absurd hg1 hc, Ext.refl _⟩)
      refine (does_move (u := (Fd y)) (ev rfl)).mono ?_; rintro _ _ ⟨rfl, rfl⟩
      exact ⟨fun _ => rfl, Ext.refl _⟩
    refine R_d (fun u hu hF => ?_) (fun v24 => ?_)
    · have h16_ : v22 = (Bo β3) := hF.1
      clear hF
      obtain rfl := h16_
      refine doesG_g (b := β3) rfl (yld rfl rfl) (fun hg1 => ?_) (fun hc => ⟨fun hg1 => absurd hg1 hc, Ext.refl _⟩)
      refine (does_move (u := (Fd y)) (ev rfl)).mono ?_; rintro _ _ ⟨rfl, rfl⟩
      exact ⟨fun _ => rfl, Ext.refl _⟩
    refine R_d (fun u hu hF => ?_) (fun v25 => ?_)
    · have h17_ : β3 = true → v23 = (Fd y) := hF.1
      have h18_ : β3 = true → v24 = (Fd y) := hF.2.1
      have h16_ : v22 = (Bo β3) := hF.2.2.1
      clear hF
      obtain rfl := h16_
      refine doesG_g (b := β3) rfl (yld rfl rfl) (fun hg1 => ?_) (fun hc => ⟨fun hg1 => absurd hg1 hc, Ext.refl _⟩)
      obtain rfl := h17_ hg1
      obtain rfl := h18_ hg1
      refine (does_fcmp (.inr (.inl rfl)) (ev rfl) (ev rfl)).mono ?_; rintro _ _ ⟨rfl, rfl⟩
      exact ⟨fun _ => (by first | rfl | (show _ = _; simp only [hβ4]; done) | (show _ = _; simp only [hβ4]; rfl)), Ext.refl _⟩
    refine R_d (fun u hu hF => ?_) (fun v26 => ?_)
    · have h16_ : v22 = (Bo β3) := hF.1
      have h19_ : β3 = true → v25 = (Bo β4) := hF.2.1
      clear hF
      refine doesG_un rfl ?_
      skip
      obtain rfl := h16_
      refine (does_pick (b := β3) (u := v25) (v := (Bo false)) (ev rfl) (ev rfl) (ev rfl)).mono ?_; rintro _ _ ⟨rfl, rfl⟩; refine ⟨?_, Ext.refl _⟩; skip
      cases hbb : β3
      all_goals first | (show _ = _; simp only [↓reduceIte, Bool.true_and, Bool.false_and, Bool.true_or, Bool.false_or, Bool.false_eq_true]; done) | (have e_ := h19_ hbb; subst e_; show _ = _; simp only [↓reduceIte, Bool.true_and, Bool.false_and, Bool.true_or, Bool.false_or, Bool.false_eq_true]; done) | rfl | (have e_ := h19_ hbb; subst e_; rfl) | (simp [hbb] at h19_ ⊢; first | done | rfl | (subst h19_; rfl) | simp_all) | (simp [hbb] at h19_ ⊢; done)
    refine RW_fin ?_; intro w27 E28 hP29
    obtain ⟨⟨⟨⟨⟨⟨⟨⟨-, -⟩, -⟩, -⟩, -⟩, -⟩, -⟩, -⟩, q30⟩ := hP29
    have X31 := Ext.gr X16 E28
    have q30 : v26 = (Bo (β3 && β4)) := q30
    obtain rfl := q30
    refine fz ?_
    refine ja (Bo (β3 && β4)) ?_
    refine wn K18 ?_
    refine wp_ret ?_
    dsimp only [Exit.then, Exit.inBlock]
    refine ret_val (v := (Bo (β3 && β4))) (res_T rfl (slot rfl)) X31 ?_
    try simp only [hβ1, hβ2, hβ3, hβ4] at c17
    have x32 : (sameF (cf .f64 x) (cf .f64 y)) = (β3 && β4) := by first | with_reducible rfl | (simp only [sameF, hβ1, hβ2, hβ3, hβ4, c17]; done) | (simp [sameF, hβ1, hβ2, hβ3, hβ4, c17]; done) | (revert c17; simp +contextual [sameF, hβ1, hβ2, hβ3, hβ4]; done) | (rcases c17' with hh | hh <;> simp only [hh, sameF, hβ1, hβ2, hβ3, hβ4, c17]; done) | (rcases c17' with hh | hh <;> simp_all [sameF]; done) | (rcases c17' with hh | hh | hh <;> simp_all [sameF]; done) | (rcases c17' with hh | hh | hh | hh <;> simp_all [sameF]; done) | (simp_all [sameF]; done) | rfl
    exact (by first | with_reducible rfl | rw [x32] | rfl)
  have c17' := c17
  (try simp only [hβ1, hβ2] at c17')
  (try simp only [icmp, bs] at c17')
  refine wp_skip (K2 _ _ ?_)
  refine ws fun _ K33 => ?_
  refine ws fun _ K34 => ?_
  obtain ⟨β5, hβ5⟩ : ∃ b : Bool, b = (fcmp .eql (ford .f64 (cf .f64 x) (cf .f64 0))) := ⟨_, rfl⟩
  obtain ⟨β6, hβ6⟩ : ∃ b : Bool, b = (fcmp .eql (ford .f64 (cf .f64 y) (cf .f64 0))) := ⟨_, rfl⟩
  refine region_text (
    [Fact.pure [] (fun v => v = (Fd x)),
    Fact.pure [21] (fun v => v = (Bo β5)),
    Fact.pure [22] (fun v => v = (Bo β5)),
    Fact.pure [23] (fun v => β5 = true → v = (Fd y)),
    Fact.pure [24, 23] (fun v => β5 = true → v = (Bo β6)),
    Fact.pure [23, 25] (fun v => v = (Bo (β5 && β6)))]) (by simp [Fact.pure, Fact.mem]) ?_
  refine R_p (fun u hu _ => does_move (u := (Fd x)) (ev rfl)) fun v35 => ?_
  refine R_d (fun u hu hF => ?_) (fun v36 => ?_)
  · have h21_ : v35 = (Fd x) := hF.1
    clear hF
    refine doesG_un rfl ?_
    obtain rfl := h21_
    refine (does_fcmp (.inl rfl) (ev rfl) (ev rfl)).mono ?_; rintro _ _ ⟨rfl, rfl⟩
    exact ⟨(by first | rfl | (show _ = _; simp only [hβ5]; done) | (show _ = _; simp only [hβ5]; rfl)), Ext.refl _⟩
  refine R_p (fun u hu hF => ?_) fun v37 => ?_
  · have h22_ : v36 = (Bo β5) := hF.1
    clear hF; subst h22_
    exact does_move (u := (Bo β5)) (ev rfl)
  refine R_d (fun u hu hF => ?_) (fun v38 => ?_)
  · have h23_ : v37 = (Bo β5) := hF.1
    clear hF
    obtain rfl := h23_
    refine doesG_g (b := β5) rfl (yld rfl rfl) (fun hg1 => ?_) (fun hc => ⟨fun hg1 => absurd hg1 hc, Ext.refl _⟩)
    refine (does_move (u := (Fd y)) (ev rfl)).mono ?_; rintro _ _ ⟨rfl, rfl⟩
    exact ⟨fun _ => rfl, Ext.refl _⟩
  refine R_d (fun u hu hF => ?_) (fun v39 => ?_)
  · have h24_ : β5 = true → v38 = (Fd y) := hF.1
    have h23_ : v37 = (Bo β5) := hF.2.1
    clear hF
    obtain rfl := h23_
    refine doesG_g (b := β5) rfl (yld rfl rfl) (fun hg1 => ?_) (fun hc => ⟨fun hg1 => absurd hg1 hc, Ext.refl _⟩)
    obtain rfl := h24_ hg1
    refine (does_fcmp (.inl rfl) (ev rfl) (ev rfl)).mono ?_; rintro _ _ ⟨rfl, rfl⟩
    exact ⟨fun _ => (by first | rfl | (show _ = _; simp only [hβ6]; done) | (show _ = _; simp only [hβ6]; rfl)), Ext.refl _⟩
  refine R_d (fun u hu hF => ?_) (fun v40 => ?_)
  · have h23_ : v37 = (Bo β5) := hF.1
    have h25_ : β5 = true → v39 = (Bo β6) := hF.2.1
    clear hF
    refine doesG_un rfl ?_
    skip
    obtain rfl := h23_
    refine (does_pick (b := β5) (u := v39) (v := (Bo false)) (ev rfl) (ev rfl) (ev rfl)).mono ?_; rintro _ _ ⟨rfl, rfl⟩; refine ⟨?_, Ext.refl _⟩; skip
    cases hbb : β5
    all_goals first | (show _ = _; simp only [↓reduceIte, Bool.true_and, Bool.false_and, Bool.true_or, Bool.false_or, Bool.false_eq_true]; done) | (have e_ := h25_ hbb; subst e_; show _ = _; simp only [↓reduceIte, Bool.true_and, Bool.false_and, Bool.true_or, Bool.false_or, Bool.false_eq_true]; done) | rfl | (have e_ := h25_ hbb; subst e_; rfl) | (simp [hbb] at h25_ ⊢; first | done | rfl | (subst h25_; rfl) | simp_all) | (simp [hbb] at h25_ ⊢; done)
  refine RW_fin ?_; intro w41 E42 hP43
  obtain ⟨⟨⟨⟨⟨⟨-, -⟩, -⟩, -⟩, -⟩, -⟩, q44⟩ := hP43
  have X45 := Ext.gr X16 E42
  have q44 : v40 = (Bo (β5 && β6)) := q44
  obtain rfl := q44
  refine fz ?_
  refine wn K34 ?_
  refine wp_cond_split (t := β5 && β6) (ev rfl) (fun c46 => ?_) (fun c46 => ?_)
  · have c46' := c46
    (try simp only [hβ1, hβ2, hβ5, hβ6] at c46')
    (try simp only [icmp, bs] at c46')
    refine wr fun _ K47 => ?_
    refine jm (Fd x) ?_
    refine sd (does_float (.inr (.inr (.inr rfl))) (ev rfl) (ev rfl)) ?_; rintro _ w51 ⟨r48, rfl, h49, E50⟩
    have X52 := Ext.gr X45 E50
    refine fz ?_
    refine jj (does_fcmp (.inr (.inr (.inr (.inr (.inl rfl))))) (ev rfl) (ev rfl)) ?_
    refine jm (Fd y) ?_
    refine sd (does_float (.inr (.inr (.inr rfl))) (ev rfl) (ev rfl)) ?_; rintro _ w56 ⟨r53, rfl, h54, E55⟩
    have X57 := Ext.gr X52 E55
    refine fz ?_
    refine jj (does_fcmp (.inr (.inr (.inr (.inr (.inl rfl))))) (ev rfl) (ev rfl)) ?_
    refine jj (does_beq (p := (fcmp .gtr (ford .f64 (cf .f64 r48) (cf .f64 0)))) (q := (fcmp .gtr (ford .f64 (cf .f64 r53) (cf .f64 0)))) Try.underlying4 (ev rfl) (ev rfl)) ?_
    refine ja (Bo ((fcmp .gtr (ford .f64 (cf .f64 r48) (cf .f64 0))) == (fcmp .gtr (ford .f64 (cf .f64 r53) (cf .f64 0))))) ?_
    refine wn K47 ?_
    refine wp_ret ?_
    dsimp only [Exit.then, Exit.inBlock]
    refine ret_val (v := (Bo ((fcmp .gtr (ford .f64 (cf .f64 r48) (cf .f64 0))) == (fcmp .gtr (ford .f64 (cf .f64 r53) (cf .f64 0)))))) (res_T rfl (slot rfl)) X57 ?_
    try simp only [hβ1, hβ2, hβ5, hβ6, h49, h54] at c17 c46
    have x58 : (sameF (cf .f64 x) (cf .f64 y)) = ((fcmp .gtr (ford .f64 (cf .f64 r48) (cf .f64 0))) == (fcmp .gtr (ford .f64 (cf .f64 r53) (cf .f64 0)))) := by first | with_reducible rfl | (simp only [sameF, hβ1, hβ2, hβ5, hβ6, h49, h54, c17, c46]; done) | (simp [sameF, hβ1, hβ2, hβ5, hβ6, h49, h54, c17, c46]; done) | (revert c17 c46; simp +contextual [sameF, hβ1, hβ2, hβ5, hβ6, h49, h54]; done) | (rcases c17' with hh | hh <;> simp only [hh, sameF, hβ1, hβ2, hβ5, hβ6, h49, h54, c17, c46]; done) | (rcases c46' with hh | hh <;> simp only [hh, sameF, hβ1, hβ2, hβ5, hβ6, h49, h54, c17, c46]; done) | (rcases c46' with hh | hh <;> simp_all [sameF]; done) | (rcases c46' with hh | hh | hh <;> simp_all [sameF]; done) | (rcases c46' with hh | hh | hh | hh <;> simp_all [sameF]; done) | (simp_all [sameF]; done) | rfl
    exact (by first | with_reducible rfl | rw [x58] | rfl)
  have c46' := c46
  (try simp only [hβ1, hβ2, hβ5, hβ6] at c46')
  (try simp only [icmp, bs] at c46')
  refine wp_skip (K33 _ _ ?_)
  refine wr fun _ K59 => ?_
  refine jm (Fd x) ?_
  refine jm (Fd y) ?_
  refine jj (does_fcmp (.inl rfl) (ev rfl) (ev rfl)) ?_
  refine ja (Bo (fcmp .eql (ford .f64 (cf .f64 x) (cf .f64 y)))) ?_
  refine wn K59 ?_
  refine wp_ret ?_
  refine ret_val (v := (Bo (fcmp .eql (ford .f64 (cf .f64 x) (cf .f64 y))))) (res_T rfl (slot rfl)) X45 ?_
  try simp only [hβ1, hβ2, hβ5, hβ6] at c17 c46
  have x60 : (sameF (cf .f64 x) (cf .f64 y)) = (fcmp .eql (ford .f64 (cf .f64 x) (cf .f64 y))) := by first | with_reducible rfl | (simp only [sameF, hβ1, hβ2, hβ5, hβ6, c17, c46]; done) | (simp [sameF, hβ1, hβ2, hβ5, hβ6, c17, c46]; done) | (revert c17 c46; simp +contextual [sameF, hβ1, hβ2, hβ5, hβ6]; done) | (rcases c17' with hh | hh <;> simp only [hh, sameF, hβ1, hβ2, hβ5, hβ6, c17, c46]; done) | (rcases c46' with hh | hh <;> simp only [hh, sameF, hβ1, hβ2, hβ5, hβ6, c17, c46]; done) | (rcases c46' with hh | hh <;> simp_all [sameF]; done) | (rcases c46' with hh | hh | hh <;> simp_all [sameF]; done) | (rcases c46' with hh | hh | hh | hh <;> simp_all [sameF]; done) | (simp_all [sameF]; done) | rfl
  exact (by first | with_reducible rfl | rw [x60] | rfl)

/- laws.eqVector -/
theorem c_laws_eqVector (a : List Value) (A_a : V3) (b : List Value) (A_b : V3) (w : World) (hv_a : RV3 w A_a a) (hv_b : RV3 w A_b b) : Gives Try.prog 23 #[(.agg a.toArray), (.agg b.toArray)] w (fun v w' => v = (Bo (sameV A_a A_b))) := by
  obtain ⟨r1, r3, r5, rfl, h2, h4, h6⟩ := hv_a
  obtain ⟨r7, r9, r11, rfl, h8, h10, h12⟩ := hv_b
  refine enter [(.agg #[(Fl r1), (Fl r3), (Fl r5)]), (.agg #[(Fl r7), (Fl r9), (Fl r11)]), Ud, Ud, Ud, Ud, Ud, Ud, Ud, Ud, Ud, Ud, Ud, Ud, Ud, Ud, Ud, Ud, Ud, Ud, Ud, Ud, Ud, Ud, Ud, Ud, Ud, Ud, Ud] Try.func23 rfl Try.ntmps23 rfl ?_
  refine wr fun _ K13 => ?_
  refine sd (does_box (u := (.agg #[(Fl r1), (Fl r3), (Fl r5)])) (ev rfl)) ?_; rintro _ w18 ⟨b14, rfl, hb15, hB16, E17⟩
  change Blk _ _ [(Fl r1), (Fl r3), (Fl r5)] at hB16
  have X20 := Ext.gr (Ext.refl w) E17
  refine fz ?_
  refine sd (does_box (u := (.agg #[(Fl r7), (Fl r9), (Fl r11)])) (ev rfl)) ?_; rintro _ w25 ⟨b21, rfl, hb22, hB23, E24⟩
  change Blk _ _ [(Fl r7), (Fl r9), (Fl r11)] at hB23
  have X28 := Ext.gr X20 E24
  refine fz ?_
  refine ja (Bo false) ?_
  refine wn K13 ?_
  refine ws fun _ K29 => ?_
  refine wr fun _ K30 => ?_
  refine jj (does_fieldAddr (ev rfl) fa35_0) ?_
  refine jj (does_load (u := (Fl r1)) (ev rfl) Try.isAgg22 (Cells.at (Blk.cells (hB16.ext E24)) 0 rfl)) ?_
  refine sd (does_widen Try.underlying22 Try.underlying57 (ev rfl)) ?_; rintro _ w34 ⟨r31, rfl, h32, E33⟩
  have X35 := Ext.gr X28 E33
  refine fz ?_
  refine jj (does_fieldAddr (ev rfl) fa35_0) ?_
  refine jj (does_load (u := (Fl r7)) (ev rfl) Try.isAgg22 (Cells.at (Blk.cells (hB23.ext E33)) 0 rfl)) ?_
  refine sd (does_widen Try.underlying22 Try.underlying57 (ev rfl)) ?_; rintro _ w39 ⟨r36, rfl, h37, E38⟩
  have X40 := Ext.gr X35 E38
  refine fz ?_
  refine sd (does_call (args := #[(Fd r31), (Fd r36)]) cal24 (evs rfl) (c_laws_sameFloat r31 r36 _)) ?_; rintro _ w42 ⟨E41, rfl⟩
  have X43 := Ext.gr X40 E41
  refine fz ?_
  refine jj (does_not (ev rfl)) ?_
  refine wn K30 ?_
  refine wp_cond_split (t := !(sameF (cf .f64 r31) (cf .f64 r36))) (ev rfl) (fun c44 => ?_) (fun c44 => ?_)
  · rw [Bool.not_eq_true'] at c44
    have c44' := c44
    refine wr fun _ K45 => ?_
    refine ja (Bo false) ?_
    refine wn K45 ?_
    refine wp_ret ?_
    dsimp only [Exit.then, Exit.inBlock]
    refine ret_val (v := (Bo false)) (res_T rfl (slot rfl)) X43 ?_
    try simp only [h2, h4, h6, h8, h10, h12, h32, h37] at c44
    have x46 : (sameV A_a A_b) = false := by first | with_reducible rfl | (simp only [sameV, h2, h4, h6, h8, h10, h12, h32, h37, c44]; done) | (simp [sameV, h2, h4, h6, h8, h10, h12, h32, h37, c44]; done) | (revert c44; simp +contextual [sameV, h2, h4, h6, h8, h10, h12, h32, h37]; done) | (rcases c44' with hh | hh <;> simp only [hh, sameV, h2, h4, h6, h8, h10, h12, h32, h37, c44]; done) | (rcases c44' with hh | hh <;> simp_all [sameV]; done) | (rcases c44' with hh | hh | hh <;> simp_all [sameV]; done) | (rcases c44' with hh | hh | hh | hh <;> simp_all [sameV]; done) | (simp_all [sameV]; done) | rfl
    exact (by first | with_reducible rfl | rw [x46] | rfl)
  rw [Bool.not_eq_false'] at c44
  have c44' := c44
  refine wp_skip (K29 _ _ ?_)
  refine ws fun _ K47 => ?_
  refine wr fun _ K48 => ?_
  refine jj (does_fieldAddr (ev rfl) fa35_1) ?_
  refine jj (does_load (u := (Fl r3)) (ev rfl) Try.isAgg22 (Cells.at (Blk.cells ((((hB16.ext E24).ext E33).ext E38).ext E41)) 1 rfl)) ?_
  refine sd (does_widen Try.underlying22 Try.underlying57 (ev rfl)) ?_; rintro _ w52 ⟨r49, rfl, h50, E51⟩
  have X53 := Ext.gr X43 E51
  refine fz ?_
  refine jj (does_fieldAddr (ev rfl) fa35_1) ?_
  refine jj (does_load (u := (Fl r9)) (ev rfl) Try.isAgg22 (Cells.at (Blk.cells ((((hB23.ext E33).ext E38).ext E41).ext E51)) 1 rfl)) ?_
  refine sd (does_widen Try.underlying22 Try.underlying57 (ev rfl)) ?_; rintro _ w57 ⟨r54, rfl, h55, E56⟩
  have X58 := Ext.gr X53 E56
  refine fz ?_
  refine sd (does_call (args := #[(Fd r49), (Fd r54)]) cal24 (evs rfl) (c_laws_sameFloat r49 r54 _)) ?_; rintro _ w60 ⟨E59, rfl⟩
  have X61 := Ext.gr X58 E59
  refine fz ?_
  refine jj (does_not (ev rfl)) ?_
  refine wn K48 ?_
  refine wp_cond_split (t := !(sameF (cf .f64 r49) (cf .f64 r54))) (ev rfl) (fun c62 => ?_) (fun c62 => ?_)
  · rw [Bool.not_eq_true'] at c62
    have c62' := c62
    refine wr fun _ K63 => ?_
    refine ja (Bo false) ?_
    refine wn K63 ?_
    refine wp_ret ?_
    dsimp only [Exit.then, Exit.inBlock]
    refine ret_val (v := (Bo false)) (res_T rfl (slot rfl)) X61 ?_
    try simp only [h2, h4, h6, h8, h10, h12, h32, h37, h50, h55] at c44 c62
    have x64 : (sameV A_a A_b) = false := by first | with_reducible rfl | (simp only [sameV, h2, h4, h6, h8, h10, h12, h32, h37, h50, h55, c44, c62]; done) | (simp [sameV, h2, h4, h6, h8, h10, h12, h32, h37, h50, h55, c44, c62]; done) | (revert c44 c62; simp +contextual [sameV, h2, h4, h6, h8, h10, h12, h32, h37, h50, h55]; done) | (rcases c44' with hh | hh <;> simp only [hh, sameV, h2, h4, h6, h8, h10, h12, h32, h37, h50, h55, c44, c62]; done) | (rcases c62' with hh | hh <;> simp only [hh, sameV, h2, h4, h6, h8, h10, h12, h32, h37, h50, h55, c44, c62]; done) | (rcases c62' with hh | hh <;> simp_all [sameV]; done) | (rcases c62' with hh | hh | hh <;> simp_all [sameV]; done) | (rcases c62' with hh | hh | hh | hh <;> simp_all [sameV]; done) | (simp_all [sameV]; done) | rfl
    exact (by first | with_reducible rfl | rw [x64] | rfl)
  rw [Bool.not_eq_false'] at c62
  have c62' := c62
  refine wp_skip (K47 _ _ ?_)
  refine ws fun _ K65 => ?_
  refine wr fun _ K66 => ?_
  refine jj (does_fieldAddr (ev rfl) fa35_2) ?_
  refine jj (does_load (u := (Fl r5)) (ev rfl) Try.isAgg22 (Cells.at (Blk.cells (((((((hB16.ext E24).ext E33).ext E38).ext E41).ext E51).ext E56).ext E59)) 2 rfl)) ?_
  refine sd (does_widen Try.underlying22 Try.underlying57 (ev rfl)) ?_; rintro _ w70 ⟨r67, rfl, h68, E69⟩
  have X71 := Ext.gr X61 E69
  refine fz ?_
  refine jj (does_fieldAddr (ev rfl) fa35_2) ?_
  refine jj (does_load (u := (Fl r11)) (ev rfl) Try.isAgg22 (Cells.at (Blk.cells (((((((hB23.ext E33).ext E38).ext E41).ext E51).ext E56).ext E59).ext E69)) 2 rfl)) ?_
  refine sd (does_widen Try.underlying22 Try.underlying57 (ev rfl)) ?_; rintro _ w75 ⟨r72, rfl, h73, E74⟩
  have X76 := Ext.gr X71 E74
  refine fz ?_
  refine sd (does_call (args := #[(Fd r67), (Fd r72)]) cal24 (evs rfl) (c_laws_sameFloat r67 r72 _)) ?_; rintro _ w78 ⟨E77, rfl⟩
  have X79 := Ext.gr X76 E77
  refine fz ?_
  refine jj (does_not (ev rfl)) ?_
  refine wn K66 ?_
  refine wp_cond_split (t := !(sameF (cf .f64 r67) (cf .f64 r72))) (ev rfl) (fun c80 => ?_) (fun c80 => ?_)
  · rw [Bool.not_eq_true'] at c80
    have c80' := c80
    refine wr fun _ K81 => ?_
    refine ja (Bo false) ?_
    refine wn K81 ?_
    refine wp_ret ?_
    dsimp only [Exit.then, Exit.inBlock]
    refine ret_val (v := (Bo false)) (res_T rfl (slot rfl)) X79 ?_
    try simp only [h2, h4, h6, h8, h10, h12, h32, h37, h50, h55, h68, h73] at c44 c62 c80
    have x82 : (sameV A_a A_b) = false := by first | with_reducible rfl | (simp only [sameV, h2, h4, h6, h8, h10, h12, h32, h37, h50, h55, h68, h73, c44, c62, c80]; done) | (simp [sameV, h2, h4, h6, h8, h10, h12, h32, h37, h50, h55, h68, h73, c44, c62, c80]; done) | (revert c44 c62 c80; simp +contextual [sameV, h2, h4, h6, h8, h10, h12, h32, h37, h50, h55, h68, h73]; done) | (rcases c44' with hh | hh <;> simp only [hh, sameV, h2, h4, h6, h8, h10, h12, h32, h37, h50, h55, h68, h73, c44, c62, c80]; done) | (rcases c62' with hh | hh <;> simp only [hh, sameV, h2, h4, h6, h8, h10, h12, h32, h37, h50, h55, h68, h73, c44, c62, c80]; done) | (rcases c80' with hh | hh <;> simp only [hh, sameV, h2, h4, h6, h8, h10, h12, h32, h37, h50, h55, h68, h73, c44, c62, c80]; done) | (rcases c80' with hh | hh <;> simp_all [sameV]; done) | (rcases c80' with hh | hh | hh <;> simp_all [sameV]; done) | (rcases c80' with hh | hh | hh | hh <;> simp_all [sameV]; done) | (simp_all [sameV]; done) | rfl
    exact (by first | with_reducible rfl | rw [x82] | rfl)
  rw [Bool.not_eq_false'] at c80
  have c80' := c80
  refine wp_skip (K65 _ _ ?_)
  refine wr fun _ K83 => ?_
  refine ja (Bo true) ?_
  refine wn K83 ?_
  refine wp_ret ?_
  refine ret_val (v := (Bo true)) (res_T rfl (slot rfl)) X79 ?_
  try simp only [h2, h4, h6, h8, h10, h12, h32, h37, h50, h55, h68, h73] at c44 c62 c80
  have x84 : (sameV A_a A_b) = true := by first | with_reducible rfl | (simp only [sameV, h2, h4, h6, h8, h10, h12, h32, h37, h50, h55, h68, h73, c44, c62, c80]; done) | (simp [sameV, h2, h4, h6, h8, h10, h12, h32, h37, h50, h55, h68, h73, c44, c62, c80]; done) | (revert c44 c62 c80; simp +contextual [sameV, h2, h4, h6, h8, h10, h12, h32, h37, h50, h55, h68, h73]; done) | (rcases c44' with hh | hh <;> simp only [hh, sameV, h2, h4, h6, h8, h10, h12, h32, h37, h50, h55, h68, h73, c44, c62, c80]; done) | (rcases c62' with hh | hh <;> simp only [hh, sameV, h2, h4, h6, h8, h10, h12, h32, h37, h50, h55, h68, h73, c44, c62, c80]; done) | (rcases c80' with hh | hh <;> simp only [hh, sameV, h2, h4, h6, h8, h10, h12, h32, h37, h50, h55, h68, h73, c44, c62, c80]; done) | (rcases c80' with hh | hh <;> simp_all [sameV]; done) | (rcases c80' with hh | hh | hh <;> simp_all [sameV]; done) | (rcases c80' with hh | hh | hh | hh <;> simp_all [sameV]; done) | (simp_all [sameV]; done) | rfl
  exact (by first | with_reducible rfl | rw [x84] | rfl)

/- laws.eqVectorS -/
theorem c_laws_eqVectorS (a : Value) (L_a : List V3) (b : Value) (L_b : List V3) (w : World) (hv_a : Sl RV3 3 w a L_a) (hv_b : Sl RV3 3 w b L_b) : Gives Try.prog 21 #[a, b] w (fun v w' => v = (Bo (sameX sameV L_a L_b))) := by
  have hlen_a := Sl.len hv_a; obtain ⟨p_a, q_a, rfl⟩ := Sl.shape hv_a
  have hlen_b := Sl.len hv_b; obtain ⟨p_b, q_b, rfl⟩ := Sl.shape hv_b
  refine enter [(.slice p_a L_a.length q_a), (.slice p_b L_b.length q_b), Ud, Ud, Ud, Ud, Ud, Ud, Ud, Ud, Ud, Ud, Ud, Ud, Ud, Ud, Ud, Ud, Ud, Ud, Ud, Ud, Ud, Ud, Ud, Ud, Ud] Try.func21 rfl Try.ntmps21 rfl ?_
  refine wr fun _ K1 => ?_
  refine ja (Bo false) ?_
  refine wn K1 ?_
  refine ws fun _ K2 => ?_
  refine wr fun _ K3 => ?_
  refine jm (.slice p_a L_a.length q_a) ?_
  refine jj (does_len_slice Try.underlying29 (ev rfl)) ?_
  refine jm (.slice p_b L_b.length q_b) ?_
  refine jj (does_len_slice Try.underlying29 (ev rfl)) ?_
  refine jj (does_icmp (p := (L_a.length : Int)) (q := (L_b.length : Int)) (.inr (.inl rfl)) (ev rfl) (ev rfl)) ?_
  refine wn K3 ?_
  refine wp_cond_split (t := icmp .neq (L_a.length : Int) (L_b.length : Int)) (ev rfl) (fun c4 => ?_) (fun c4 => ?_)
  · have c4' := c4
    (try simp only [icmp, bs] at c4')
    refine wr fun _ K5 => ?_
    refine ja (Bo false) ?_
    refine wn K5 ?_
    refine wp_ret ?_
    dsimp only [Exit.then, Exit.inBlock]
    refine ret_val (v := (Bo false)) (res_T rfl (slot rfl)) (Ext.refl w) ?_
    have x6 : (sameX sameV L_a L_b) = false := by first | exact (sameX_len (by omega)) | exact (sameX_not (by omega) (by assumption) (by assumption) (by simp_all)) | exact (sameX_all (by omega) (by omega) hs)
    exact (by first | with_reducible rfl | rw [x6] | rfl)
  have c4' := c4
  (try simp only [icmp, bs] at c4')
  refine wp_skip (K2 _ _ ?_)
  refine ws fun _ K7 => ?_
  refine wr fun _ K8 => ?_
  refine ja (Iv 0) ?_
  refine wn K8 ?_
  refine wp_block ?_
  refine loop_ghost (σ := Nat) (fun k a w' => ∃ u9 : Nat → Value, a = fr [(.slice p_a L_a.length q_a), (.slice p_b L_b.length q_b), Ud, Ud, (u9 4), (Iv (k : Int)), (.slice p_a L_a.length q_a), (Iv (L_a.length : Int)), (.slice p_b L_b.length q_b), (Iv (L_b.length : Int)), (Bo (icmp .neq (L_a.length : Int) (L_b.length : Int))), (u9 11), (u9 12), (u9 13), (u9 14), (u9 15), (u9 16), (u9 17), (u9 18), (u9 19), (u9 20), (u9 21), (u9 22), (u9 23), (u9 24), (u9 25), (u9 26)] ∧ Ext w w' ∧ (k ≤ L_a.length ∧ SameXTo sameV L_a L_b k)) (fun k => L_a.length - k) 0 ?_ ?_
  · refine ⟨pk [(4, Bo false)], rfl, Ext.refl _, ?_⟩
    exact ⟨Nat.zero_le _, SameXTo.zero⟩
  · rintro k a w10 ⟨u9, rfl, E11, ⟨hk, hs⟩⟩
    have X13 := Ext.gr (Ext.refl w) E11
    refine ws fun _ K14 => ?_
    refine wr fun _ K15 => ?_
    refine jm (Iv (k : Int)) ?_
    refine jm (.slice p_a L_a.length q_a) ?_
    refine jj (does_len_slice Try.underlying29 (ev rfl)) ?_
    refine jj (does_icmp (p := (k : Int)) (q := (L_a.length : Int)) (.inr (.inr (.inl rfl))) (ev rfl) (ev rfl)) ?_
    refine wn K15 ?_
    refine wp_cond_split (t := icmp .lss (k : Int) (L_a.length : Int)) (ev rfl) (fun c16 => ?_) (fun c16 => ?_)
    · have c16' := c16
      (try simp only [icmp, bs] at c16')
      refine wp_skip (K14 _ _ ?_)
      refine ws fun _ K17 => ?_
      refine wp_block ?_
      refine ws fun _ K18 => ?_
      obtain ⟨el1, hel1⟩ : ∃ e, L_a[k]? = some e := ⟨_, List.getElem?_eq_getElem (by omega)⟩
      obtain ⟨el2, hel2⟩ : ∃ e, L_b[k]? = some e := ⟨_, List.getElem?_eq_getElem (by omega)⟩
      refine region_draw (
        [Fact.pure [] (fun v => v = (.slice p_a L_a.length q_a)),
    Fact.pure [] (fun v => v = (Iv (k : Int))),
    Fact.mem [17, 18] (fun v w' => PtrR RV3 w' v el1) (by intro v w1 w2 hx h; exact h.ext RV3.mono hx),
    Fact.pure [19] (fun v => ∃ cs_1 : List Value, v = (.agg cs_1.toArray) ∧ RV3 w el1 cs_1),
    Fact.pure [] (fun v => v = (.slice p_b L_b.length q_b)),
    Fact.pure [] (fun v => v = (Iv (k : Int))),
    Fact.mem [21, 22] (fun v w' => PtrR RV3 w' v el2) (by intro v w1 w2 hx h; exact h.ext RV3.mono hx),
    Fact.pure [23] (fun v => ∃ cs_1 : List Value, v = (.agg cs_1.toArray) ∧ RV3 w el2 cs_1),
    Fact.pure [20, 24] (fun v => v = (Bo (sameV el1 el2))),
    Fact.pure [25] (fun v => v = (Bo (!(sameV el1 el2))))]) mixed (by kernel_rfl) (by intro _ _ d _ _ h; cases d <;> exact h) ?_
      obtain ⟨w19, hw21⟩ : ∃ w', w' = World.drew w10 := ⟨_, rfl⟩; rw [← hw21]; have E20 : Ext w10 w19 := by rw [hw21]; exact Ext.draw _
      clear hw21
      have X22 := Ext.gr X13 E20
      refine R_p (fun u hu _ => does_move (u := (.slice p_a L_a.length q_a)) (ev rfl)) fun v23 => ?_
      refine R_p (fun u hu _ => does_move (u := (Iv (k : Int))) (ev rfl)) fun v24 => ?_
      refine R_d (fun u hu hF => ?_) (fun v25 => ?_)
      · have h17_ : v23 = (.slice p_a L_a.length q_a) := hF.1
        have h18_ : v24 = (Iv (k : Int)) := hF.2.1
        clear hF
        refine doesG_un rfl ?_
        obtain rfl := h17_
        obtain rfl := h18_
        refine (does_indexSl (R := RV3) (i := (k : Int)) (xs := L_a) (e := el1) Try.underlying29 Try.sizeOf35 (ev rfl) (ev rfl) (Sl.ext (Sl.ext hv_a RV3.mono (Ext.gr X13 E20)) RV3.mono hu) (by omega) hel1).mono ?_; rintro v u' ⟨b, of, cs, hv, hc, hR, hu'⟩; subst hu'
        exact ⟨⟨b, of, cs, hv, hc, hR⟩, Ext.refl _⟩
      refine R_d (fun u hu hF => ?_) (fun v26 => ?_)
      · have h19_ : PtrR RV3 u v25 el1 := hF.1
        clear hF
        refine doesG_un rfl ?_
        obtain ⟨b19_, o19_, _, rfl, hc19_, ⟨r19_1, r19_3, r19_5, rfl, h19_2, h19_4, h19_6⟩⟩ := h19_
        refine (does_loadAgg (cs := [(Fl r19_1), (Fl r19_3), (Fl r19_5)]) (ev rfl) Try.isAgg35 Try.sizeOf35 hc19_ rfl).mono ?_; rintro _ _ ⟨rfl, rfl⟩
        exact ⟨⟨[(Fl r19_1), (Fl r19_3), (Fl r19_5)], rfl, ⟨r19_1, r19_3, r19_5, rfl, (by first | assumption | rfl), (by first | assumption | rfl), (by first | assumption | rfl)⟩⟩, Ext.refl _⟩
      refine R_p (fun u hu _ => does_move (u := (.slice p_b L_b.length q_b)) (ev rfl)) fun v27 => ?_
      refine R_p (fun u hu _ => does_move (u := (Iv (k : Int))) (ev rfl)) fun v28 => ?_
      refine R_d (fun u hu hF => ?_) (fun v29 => ?_)
      · have h21_ : v27 = (.slice p_b L_b.length q_b) := hF.1
        have h22_ : v28 = (Iv (k : Int)) := hF.2.1
        clear hF
        refine doesG_un rfl ?_
        obtain rfl := h21_
        obtain rfl := h22_
        refine (does_indexSl (R := RV3) (i := (k : Int)) (xs := L_b) (e := el2) Try.underlying29 Try.sizeOf35 (ev rfl) (ev rfl) (Sl.ext (Sl.ext hv_b RV3.mono (Ext.gr X13 E20)) RV3.mono hu) (by omega) hel2).mono ?_; rintro v u' ⟨b, of, cs, hv, hc, hR, hu'⟩; subst hu'
        exact ⟨⟨b, of, cs, hv, hc, hR⟩, Ext.refl _⟩
      refine R_d (fun u hu hF => ?_) (fun v30 => ?_)
      · have h23_ : PtrR RV3 u v29 el2 := hF.1
        clear hF
        refine doesG_un rfl ?_
        obtain ⟨b23_, o23_, _, rfl, hc23_, ⟨r23_1, r23_3, r23_5, rfl, h23_2, h23_4, h23_6⟩⟩ := h23_
        refine (does_loadAgg (cs := [(Fl r23_1), (Fl r23_3), (Fl r23_5)]) (ev rfl) Try.isAgg35 Try.sizeOf35 hc23_ rfl).mono ?_; rintro _ _ ⟨rfl, rfl⟩
        exact ⟨⟨[(Fl r23_1), (Fl r23_3), (Fl r23_5)], rfl, ⟨r23_1, r23_3, r23_5, rfl, (by first | assumption | rfl), (by first | assumption | rfl), (by first | assumption | rfl)⟩⟩, Ext.refl _⟩
      refine R_d (fun u hu hF => ?_) (fun v31 => ?_)
      · have h20_ : ∃ cs_1 : List Value, v26 = (.agg cs_1.toArray) ∧ RV3 w el1 cs_1 := hF.1
        have h24_ : ∃ cs_1 : List Value, v30 = (.agg cs_1.toArray) ∧ RV3 w el2 cs_1 := hF.2.1
        clear hF
        refine doesG_un rfl ?_
        obtain ⟨_, rfl, ⟨r20_1, r20_3, r20_5, rfl, h20_2, h20_4, h20_6⟩⟩ := h20_
        obtain ⟨_, rfl, ⟨r24_1, r24_3, r24_5, rfl, h24_2, h24_4, h24_6⟩⟩ := h24_
        refine (does_call (args := #[(.agg #[(Fl r20_1), (Fl r20_3), (Fl r20_5)]), (.agg #[(Fl r24_1), (Fl r24_3), (Fl r24_5)])]) cal23 (evs rfl) (c_laws_eqVector [(Fl r20_1), (Fl r20_3), (Fl r20_5)] el1 [(Fl r24_1), (Fl r24_3), (Fl r24_5)] el2 _ ⟨r20_1, r20_3, r20_5, rfl, (by assumption), (by assumption), (by assumption)⟩ ⟨r24_1, r24_3, r24_5, rfl, (by assumption), (by assumption), (by assumption)⟩)).mono ?_; rintro v u' ⟨hx, hv⟩
        exact ⟨hv.trans (by simp only [h20_2, h20_4, h20_6, h24_2, h24_4, h24_6]), hx⟩
      refine R_p (fun u hu hF => ?_) fun v32 => ?_
      · have h25_ : v31 = (Bo (sameV el1 el2)) := hF.1
        clear hF; subst h25_
        exact does_not (ev rfl)
      refine RW_fin ?_; intro w33 E34 hP35
      obtain ⟨⟨⟨⟨⟨⟨⟨⟨⟨⟨-, -⟩, -⟩, -⟩, -⟩, -⟩, -⟩, -⟩, -⟩, -⟩, q36⟩ := hP35
      have X37 := Ext.gr X22 E34
      have q36 : v32 = (Bo (!(sameV el1 el2))) := q36
      obtain rfl := q36
      refine fz ?_
      refine wn K18 ?_
      refine wp_cond_split (t := !(sameV el1 el2)) (ev rfl) (fun c38 => ?_) (fun c38 => ?_)
      · rw [Bool.not_eq_true'] at c38
        have c38' := c38
        refine wr fun _ K39 => ?_
        refine ja (Bo false) ?_
        refine wn K39 ?_
        refine wp_ret ?_
        dsimp only [Exit.then, Exit.inBlock]
        refine ret_val (v := (Bo false)) (res_T rfl (slot rfl)) X37 ?_
        try simp only [hel1, hel2] at c4 c16 c38
        have x40 : (sameX sameV L_a L_b) = false := by first | exact (sameX_len (by omega)) | exact (sameX_not (by omega) (by assumption) (by assumption) (by simp_all)) | exact (sameX_all (by omega) (by omega) hs)
        exact (by first | with_reducible rfl | rw [x40] | rfl)
      rw [Bool.not_eq_false'] at c38
      have c38' := c38
      refine wp_skip (K17 _ _ ?_)
      refine wp_region_lit ?_
      refine jm (Iv (k : Int)) ?_
      refine jj (does_iarith (p := (k : Int)) (q := 1) (r := (k : Int) + 1) (ev rfl) (ev rfl) (.inl ⟨rfl, (in_i64 (by omega) (by omega)).symm⟩)) ?_
      refine ja (Iv ((k : Int) + 1)) ?_
      refine wpList_nil ?_
      refine ⟨k + 1, ⟨pk [(4, u9 4), (11, Iv (k : Int)), (12, (.slice p_a L_a.length q_a)), (13, Iv (L_a.length : Int)), (14, Bo (icmp .lss (k : Int) (L_a.length : Int))), (15, Iv (k : Int)), (16, Iv ((k : Int) + 1)), (17, v23), (18, v24), (19, v25), (20, v26), (21, v27), (22, v28), (23, v29), (24, v30), (25, v31), (26, Bo (!(sameV el1 el2)))], ?_, (Ext.gr (Ext.gr E11 E20) E34), ?_⟩, ?_⟩
      · first | rfl | (simp only [Int.natCast_add, Int.natCast_one]; rfl)
      · exact ⟨by omega, SameXTo.step hs (by assumption) (by assumption) (by simp_all)⟩
      · omega
    have c16' := c16
    (try simp only [icmp, bs] at c16')
    refine wp_exit ?_
    refine K7 _ _ ?_
    refine wr fun _ K41 => ?_
    refine ja (Bo true) ?_
    refine wn K41 ?_
    refine wp_ret ?_
    refine ret_val (v := (Bo true)) (res_T rfl (slot rfl)) X13 ?_
    have x42 : (sameX sameV L_a L_b) = true := by first | exact (sameX_len (by omega)) | exact (sameX_not (by omega) (by assumption) (by assumption) (by simp_all)) | exact (sameX_all (by omega) (by omega) hs)
    exact (by first | with_reducible rfl | rw [x42] | rfl)

/- laws.eqInt64S -/
theorem c_laws_eqInt64S (a : Value) (L_a : List Int) (b : Value) (L_b : List Int) (w : World) (hv_a : Sl RI 1 w a L_a) (hv_b : Sl RI 1 w b L_b) : Gives Try.prog 44 #[a, b] w (fun v w' => v = (Bo (sameX eqI L_a L_b))) := by
  have hlen_a := Sl.len hv_a; obtain ⟨p_a, q_a, rfl⟩ := Sl.shape hv_a
  have hlen_b := Sl.len hv_b; obtain ⟨p_b, q_b, rfl⟩ := Sl.shape hv_b
  refine enter [(.slice p_a L_a.length q_a), (.slice p_b L_b.length q_b), Ud, Ud, Ud, Ud, Ud, Ud, Ud, Ud, Ud, Ud, Ud, Ud, Ud, Ud, Ud, Ud, Ud, Ud, Ud, Ud, Ud, Ud, Ud, Ud] Try.func44 rfl Try.ntmps44 rfl ?_
  refine wr fun _ K1 => ?_
  refine ja (Bo false) ?_
  refine wn K1 ?_
  refine ws fun _ K2 => ?_
  refine wr fun _ K3 => ?_
  refine jm (.slice p_a L_a.length q_a) ?_
  refine jj (does_len_slice Try.underlying65 (ev rfl)) ?_
  refine jm (.slice p_b L_b.length q_b) ?_
  refine jj (does_len_slice Try.underlying65 (ev rfl)) ?_
  refine jj (does_icmp (p := (L_a.length : Int)) (q := (L_b.length : Int)) (.inr (.inl rfl)) (ev rfl) (ev rfl)) ?_
  refine wn K3 ?_
  refine wp_cond_split (t := icmp .neq (L_a.length : Int) (L_b.length : Int)) (ev rfl) (fun c4 => ?_) (fun c4 => ?_)
  · have c4' := c4
    (try simp only [icmp, bs] at c4')
    refine wr fun _ K5 => ?_
    refine ja (Bo false) ?_
    refine wn K5 ?_
    refine wp_ret ?_
    dsimp only [Exit.then, Exit.inBlock]
    refine ret_val (v := (Bo false)) (res_T rfl (slot rfl)) (Ext.refl w) ?_
    have x6 : (sameX eqI L_a L_b) = false := by first | exact (sameX_len (by omega)) | exact (sameX_not (by omega) (by assumption) (by assumption) (by simp only [eqI, icmp] at *; simp_all)) | exact (sameX_all (by omega) (by omega) hs)
    exact (by first | with_reducible rfl | rw [x6] | rfl)
  have c4' := c4
  (try simp only [icmp, bs] at c4')
  refine wp_skip (K2 _ _ ?_)
  refine ws fun _ K7 => ?_
  refine wr fun _ K8 => ?_
  refine ja (Iv 0) ?_
  refine wn K8 ?_
  refine wp_block ?_
  refine loop_ghost (σ := Nat) (fun k a w' => ∃ u9 : Nat → Value, a = fr [(.slice p_a L_a.length q_a), (.slice p_b L_b.length q_b), Ud, Ud, (u9 4), (Iv (k : Int)), (.slice p_a L_a.length q_a), (Iv (L_a.length : Int)), (.slice p_b L_b.length q_b), (Iv (L_b.length : Int)), (Bo (icmp .neq (L_a.length : Int) (L_b.length : Int))), (u9 11), (u9 12), (u9 13), (u9 14), (u9 15), (u9 16), (u9 17), (u9 18), (u9 19), (u9 20), (u9 21), (u9 22), (u9 23), (u9 24), (u9 25)] ∧ Ext w w' ∧ (k ≤ L_a.length ∧ SameXTo eqI L_a L_b k)) (fun k => L_a.length - k) 0 ?_ ?_
  · refine ⟨pk [(4, Bo false)], rfl, Ext.refl _, ?_⟩
    exact ⟨Nat.zero_le _, SameXTo.zero⟩
  · rintro k a w10 ⟨u9, rfl, E11, ⟨hk, hs⟩⟩
    have X13 := Ext.gr (Ext.refl w) E11
    refine ws fun _ K14 => ?_
    refine wr fun _ K15 => ?_
    refine jm (Iv (k : Int)) ?_
    refine jm (.slice p_a L_a.length q_a) ?_
    refine jj (does_len_slice Try.underlying65 (ev rfl)) ?_
    refine jj (does_icmp (p := (k : Int)) (q := (L_a.length : Int)) (.inr (.inr (.inl rfl))) (ev rfl) (ev rfl)) ?_
    refine wn K15 ?_
    refine wp_cond_split (t := icmp .lss (k : Int) (L_a.length : Int)) (ev rfl) (fun c16 => ?_) (fun c16 => ?_)
    · have c16' := c16
      (try simp only [icmp, bs] at c16')
      refine wp_skip (K14 _ _ ?_)
      refine ws fun _ K17 => ?_
      refine wp_block ?_
      refine ws fun _ K18 => ?_
      obtain ⟨el1, hel1⟩ : ∃ e, L_a[k]? = some e := ⟨_, List.getElem?_eq_getElem (by omega)⟩
      obtain ⟨el2, hel2⟩ : ∃ e, L_b[k]? = some e := ⟨_, List.getElem?_eq_getElem (by omega)⟩
      refine region_draw (
        [Fact.pure [] (fun v => v = (.slice p_a L_a.length q_a)),
    Fact.pure [] (fun v => v = (Iv (k : Int))),
    Fact.mem [17, 18] (fun v w' => PtrR RI w' v el1) (by intro v w1 w2 hx h; exact h.ext RI.mono hx),
    Fact.pure [19] (fun v => v = (Iv el1)),
    Fact.pure [] (fun v => v = (.slice p_b L_b.length q_b)),
    Fact.pure [] (fun v => v = (Iv (k : Int))),
    Fact.mem [21, 22] (fun v w' => PtrR RI w' v el2) (by intro v w1 w2 hx h; exact h.ext RI.mono hx),
    Fact.pure [23] (fun v => v = (Iv el2)),
    Fact.pure [20, 24] (fun v => v = (Bo (icmp .neq el1 el2)))]) mixed (by kernel_rfl) (by intro _ _ d _ _ h; cases d <;> exact h) ?_
      obtain ⟨w19, hw21⟩ : ∃ w', w' = World.drew w10 := ⟨_, rfl⟩; rw [← hw21]; have E20 : Ext w10 w19 := by rw [hw21]; exact Ext.draw _
      clear hw21
      have X22 := Ext.gr X13 E20
      refine R_p (fun u hu _ => does_move (u := (.slice p_a L_a.length q_a)) (ev rfl)) fun v23 => ?_
      refine R_p (fun u hu _ => does_move (u := (Iv (k : Int))) (ev rfl)) fun v24 => ?_
      refine R_d (fun u hu hF => ?_) (fun v25 => ?_)
      · have h17_ : v23 = (.slice p_a L_a.length q_a) := hF.1
        have h18_ : v24 = (Iv (k : Int)) := hF.2.1
        clear hF
        refine doesG_un rfl ?_
        obtain rfl := h17_
        obtain rfl := h18_
        refine (does_indexSl (R := RI) (i := (k : Int)) (xs := L_a) (e := el1) Try.underlying65 Try.sizeOf2 (ev rfl) (ev rfl) (Sl.ext (Sl.ext hv_a RI.mono (Ext.gr X13 E20)) RI.mono hu) (by omega) hel1).mono ?_; rintro v u' ⟨b, of, cs, hv, hc, hR, hu'⟩; subst hu'
        exact ⟨⟨b, of, cs, hv, hc, hR⟩, Ext.refl _⟩
      refine R_d (fun u hu hF => ?_) (fun v26 => ?_)
      · have h19_ : PtrR RI u v25 el1 := hF.1
        clear hF
        refine doesG_un rfl ?_
        obtain ⟨b19_, o19_, _, rfl, hc19_, rfl⟩ := h19_
        refine (does_load (u := (Iv el1)) (ev rfl) Try.isAgg2 (Cells.at hc19_ 0 rfl)).mono ?_; rintro _ _ ⟨rfl, rfl⟩
        exact ⟨rfl, Ext.refl _⟩
      refine R_p (fun u hu _ => does_move (u := (.slice p_b L_b.length q_b)) (ev rfl)) fun v27 => ?_
      refine R_p (fun u hu _ => does_move (u := (Iv (k : Int))) (ev rfl)) fun v28 => ?_
      refine R_d (fun u hu hF => ?_) (fun v29 => ?_)
      · have h21_ : v27 = (.slice p_b L_b.length q_b) := hF.1
        have h22_ : v28 = (Iv (k : Int)) := hF.2.1
        clear hF
        refine doesG_un rfl ?_
        obtain rfl := h21_
        obtain rfl := h22_
        refine (does_indexSl (R := RI) (i := (k : Int)) (xs := L_b) (e := el2) Try.underlying65 Try.sizeOf2 (ev rfl) (ev rfl) (Sl.ext (Sl.ext hv_b RI.mono (Ext.gr X13 E20)) RI.mono hu) (by omega) hel2).mono ?_; rintro v u' ⟨b, of, cs, hv, hc, hR, hu'⟩; subst hu'
        exact ⟨⟨b, of, cs, hv, hc, hR⟩, Ext.refl _⟩
      refine R_d (fun u hu hF => ?_) (fun v30 => ?_)
      · have h23_ : PtrR RI u v29 el2 := hF.1
        clear hF
        refine doesG_un rfl ?_
        obtain ⟨b23_, o23_, _, rfl, hc23_, rfl⟩ := h23_
        refine (does_load (u := (Iv el2)) (ev rfl) Try.isAgg2 (Cells.at hc23_ 0 rfl)).mono ?_; rintro _ _ ⟨rfl, rfl⟩
        exact ⟨rfl, Ext.refl _⟩
      refine R_p (fun u hu hF => ?_) fun v31 => ?_
      · have h20_ : v26 = (Iv el1) := hF.1
        have h24_ : v30 = (Iv el2) := hF.2.1
        clear hF; subst h20_ h24_
        exact does_icmp (p := el1) (q := el2) (.inr (.inl rfl)) (ev rfl) (ev rfl)
      refine RW_fin ?_; intro w32 E33 hP34
      obtain ⟨⟨⟨⟨⟨⟨⟨⟨⟨-, -⟩, -⟩, -⟩, -⟩, -⟩, -⟩, -⟩, -⟩, q35⟩ := hP34
      have X36 := Ext.gr X22 E33
      have q35 : v31 = (Bo (icmp .neq el1 el2)) := q35
      obtain rfl := q35
      refine fz ?_
      refine wn K18 ?_
      refine wp_cond_split (t := icmp .neq el1 el2) (ev rfl) (fun c37 => ?_) (fun c37 => ?_)
      · have c37' := c37
        (try simp only [icmp, bs] at c37')
        refine wr fun _ K38 => ?_
        refine ja (Bo false) ?_
        refine wn K38 ?_
        refine wp_ret ?_
        dsimp only [Exit.then, Exit.inBlock]
        refine ret_val (v := (Bo false)) (res_T rfl (slot rfl)) X36 ?_
        try simp only [hel1, hel2] at c4 c16 c37
        have x39 : (sameX eqI L_a L_b) = false := by first | exact (sameX_len (by omega)) | exact (sameX_not (by omega) (by assumption) (by assumption) (by simp only [eqI, icmp] at *; simp_all)) | exact (sameX_all (by omega) (by omega) hs)
        exact (by first | with_reducible rfl | rw [x39] | rfl)
      have c37' := c37
      (try simp only [icmp, bs] at c37')
      refine wp_skip (K17 _ _ ?_)
      refine wp_region_lit ?_
      refine jm (Iv (k : Int)) ?_
      refine jj (does_iarith (p := (k : Int)) (q := 1) (r := (k : Int) + 1) (ev rfl) (ev rfl) (.inl ⟨rfl, (in_i64 (by omega) (by omega)).symm⟩)) ?_
      refine ja (Iv ((k : Int) + 1)) ?_
      refine wpList_nil ?_
      refine ⟨k + 1, ⟨pk [(4, u9 4), (11, Iv (k : Int)), (12, (.slice p_a L_a.length q_a)), (13, Iv (L_a.length : Int)), (14, Bo (icmp .lss (k : Int) (L_a.length : Int))), (15, Iv (k : Int)), (16, Iv ((k : Int) + 1)), (17, v23), (18, v24), (19, v25), (20, v26), (21, v27), (22, v28), (23, v29), (24, v30), (25, Bo (icmp .neq el1 el2))], ?_, (Ext.gr (Ext.gr E11 E20) E33), ?_⟩, ?_⟩
      · first | rfl | (simp only [Int.natCast_add, Int.natCast_one]; rfl)
      · exact ⟨by omega, SameXTo.step hs (by assumption) (by assumption) (by simp only [eqI, icmp] at *; simp_all)⟩
      · omega
    have c16' := c16
    (try simp only [icmp, bs] at c16')
    refine wp_exit ?_
    refine K7 _ _ ?_
    refine wr fun _ K40 => ?_
    refine ja (Bo true) ?_
    refine wn K40 ?_
    refine wp_ret ?_
    refine ret_val (v := (Bo true)) (res_T rfl (slot rfl)) X13 ?_
    have x41 : (sameX eqI L_a L_b) = true := by first | exact (sameX_len (by omega)) | exact (sameX_not (by omega) (by assumption) (by assumption) (by simp only [eqI, icmp] at *; simp_all)) | exact (sameX_all (by omega) (by omega) hs)
    exact (by first | with_reducible rfl | rw [x41] | rfl)

/- laws.eqInt64SS -/
theorem c_laws_eqInt64SS (a : Value) (L_a : List (List Int)) (b : Value) (L_b : List (List Int)) (w : World) (hv_a : Sl (RS RI 1) 1 w a L_a) (hv_b : Sl (RS RI 1) 1 w b L_b) : Gives Try.prog 22 #[a, b] w (fun v w' => v = (Bo (sameX eqIs L_a L_b))) := by
  have hlen_a := Sl.len hv_a; obtain ⟨p_a, q_a, rfl⟩ := Sl.shape hv_a
  have hlen_b := Sl.len hv_b; obtain ⟨p_b, q_b, rfl⟩ := Sl.shape hv_b
  refine enter [(.slice p_a L_a.length q_a), (.slice p_b L_b.length q_b), Ud, Ud, Ud, Ud, Ud, Ud, Ud, Ud, Ud, Ud, Ud, Ud, Ud, Ud, Ud, Ud, Ud, Ud, Ud, Ud, Ud, Ud, Ud, Ud, Ud] Try.func22 rfl Try.ntmps22 rfl ?_
  refine wr fun _ K1 => ?_
  refine ja (Bo false) ?_
  refine wn K1 ?_
  refine ws fun _ K2 => ?_
  refine wr fun _ K3 => ?_
  refine jm (.slice p_a L_a.length q_a) ?_
  refine jj (does_len_slice Try.underlying30 (ev rfl)) ?_
  refine jm (.slice p_b L_b.length q_b) ?_
  refine jj (does_len_slice Try.underlying30 (ev rfl)) ?_
  refine jj (does_icmp (p := (L_a.length : Int)) (q := (L_b.length : Int)) (.inr (.inl rfl)) (ev rfl) (ev rfl)) ?_
  refine wn K3 ?_
  refine wp_cond_split (t := icmp .neq (L_a.length : Int) (L_b.length : Int)) (ev rfl) (fun c4 => ?_) (fun c4 => ?_)
  · have c4' := c4
    (try simp only [icmp, bs] at c4')
    refine wr fun _ K5 => ?_
    refine ja (Bo false) ?_
    refine wn K5 ?_
    refine wp_ret ?_
    dsimp only [Exit.then, Exit.inBlock]
    refine ret_val (v := (Bo false)) (res_T rfl (slot rfl)) (Ext.refl w) ?_
    have x6 : (sameX eqIs L_a L_b) = false := by first | exact (sameX_len (by omega)) | exact (sameX_not (by omega) (by assumption) (by assumption) (by show sameX eqI _ _ = _; assumption)) | exact (sameX_all (by omega) (by omega) hs)
    exact (by first | with_reducible rfl | rw [x6] | rfl)
  have c4' := c4
  (try simp only [icmp, bs] at c4')
  refine wp_skip (K2 _ _ ?_)
  refine ws fun _ K7 => ?_
  refine wr fun _ K8 => ?_
  refine ja (Iv 0) ?_
  refine wn K8 ?_
  refine wp_block ?_
  refine loop_ghost (σ := Nat) (fun k a w' => ∃ u9 : Nat → Value, a = fr [(.slice p_a L_a.length q_a), (.slice p_b L_b.length q_b), Ud, Ud, (u9 4), (Iv (k : Int)), (.slice p_a L_a.length q_a), (Iv (L_a.length : Int)), (.slice p_b L_b.length q_b), (Iv (L_b.length : Int)), (Bo (icmp .neq (L_a.length : Int) (L_b.length : Int))), (u9 11), (u9 12), (u9 13), (u9 14), (u9 15), (u9 16), (u9 17), (u9 18), (u9 19), (u9 20), (u9 21), (u9 22), (u9 23), (u9 24), (u9 25), (u9 26)] ∧ Ext w w' ∧ (k ≤ L_a.length ∧ SameXTo eqIs L_a L_b k)) (fun k => L_a.length - k) 0 ?_ ?_
  · refine ⟨pk [(4, Bo false)], rfl, Ext.refl _, ?_⟩
    exact ⟨Nat.zero_le _, SameXTo.zero⟩
  · rintro k a w10 ⟨u9, rfl, E11, ⟨hk, hs⟩⟩
    have X13 := Ext.gr (Ext.refl w) E11
    refine ws fun _ K14 => ?_
    refine wr fun _ K15 => ?_
    refine jm (Iv (k : Int)) ?_
    refine jm (.slice p_a L_a.length q_a) ?_
    refine jj (does_len_slice Try.underlying30 (ev rfl)) ?_
    refine jj (does_icmp (p := (k : Int)) (q := (L_a.length : Int)) (.inr (.inr (.inl rfl))) (ev rfl) (ev rfl)) ?_
    refine wn K15 ?_
    refine wp_cond_split (t := icmp .lss (k : Int) (L_a.length : Int)) (ev rfl) (fun c16 => ?_) (fun c16 => ?_)
    · have c16' := c16
      (try simp only [icmp, bs] at c16')
      refine wp_skip (K14 _ _ ?_)
      refine ws fun _ K17 => ?_
      refine wp_block ?_
      refine ws fun _ K18 => ?_
      obtain ⟨el1, hel1⟩ : ∃ e, L_a[k]? = some e := ⟨_, List.getElem?_eq_getElem (by omega)⟩
      obtain ⟨el2, hel2⟩ : ∃ e, L_b[k]? = some e := ⟨_, List.getElem?_eq_getElem (by omega)⟩
      refine region_draw (
        [Fact.pure [] (fun v => v = (.slice p_a L_a.length q_a)),
    Fact.pure [] (fun v => v = (Iv (k : Int))),
    Fact.mem [17, 18] (fun v w' => PtrR (RS RI 1) w' v el1) (by intro v w1 w2 hx h; exact h.ext (RS.mono RI.mono) hx),
    Fact.mem [19] (fun v w' => ∃ y_1 : Value, v = y_1 ∧ Sl RI 1 w' y_1 el1) (by rintro v w1 w2 hx ⟨z1, rfl, k0⟩; exact ⟨_, rfl, (k0.ext RI.mono hx)⟩),
    Fact.pure [] (fun v => v = (.slice p_b L_b.length q_b)),
    Fact.pure [] (fun v => v = (Iv (k : Int))),
    Fact.mem [21, 22] (fun v w' => PtrR (RS RI 1) w' v el2) (by intro v w1 w2 hx h; exact h.ext (RS.mono RI.mono) hx),
    Fact.mem [23] (fun v w' => ∃ y_1 : Value, v = y_1 ∧ Sl RI 1 w' y_1 el2) (by rintro v w1 w2 hx ⟨z1, rfl, k0⟩; exact ⟨_, rfl, (k0.ext RI.mono hx)⟩),
    Fact.pure [20, 24] (fun v => v = (Bo (sameX eqI el1 el2))),
    Fact.pure [25] (fun v => v = (Bo (!(sameX eqI el1 el2))))]) mixed (by kernel_rfl) (by intro _ _ d _ _ h; cases d <;> exact h) ?_
      obtain ⟨w19, hw21⟩ : ∃ w', w' = World.drew w10 := ⟨_, rfl⟩; rw [← hw21]; have E20 : Ext w10 w19 := by rw [hw21]; exact Ext.draw _
      clear hw21
      have X22 := Ext.gr X13 E20
      refine R_p (fun u hu _ => does_move (u := (.slice p_a L_a.length q_a)) (ev rfl)) fun v23 => ?_
      refine R_p (fun u hu _ => does_move (u := (Iv (k : Int))) (ev rfl)) fun v24 => ?_
      refine R_d (fun u hu hF => ?_) (fun v25 => ?_)
      · have h17_ : v23 = (.slice p_a L_a.length q_a) := hF.1
        have h18_ : v24 = (Iv (k : Int)) := hF.2.1
        clear hF
        refine doesG_un rfl ?_
        obtain rfl := h17_
        obtain rfl := h18_
        refine (does_indexSl (R := (RS RI 1)) (i := (k : Int)) (xs := L_a) (e := el1) Try.underlying30 Try.sizeOf65 (ev rfl) (ev rfl) (Sl.ext (Sl.ext hv_a (RS.mono RI.mono) (Ext.gr X13 E20)) (RS.mono RI.mono) hu) (by omega) hel1).mono ?_; rintro v u' ⟨b, of, cs, hv, hc, hR, hu'⟩; subst hu'
        exact ⟨⟨b, of, cs, hv, hc, hR⟩, Ext.refl _⟩
      refine R_d (fun u hu hF => ?_) (fun v26 => ?_)
      · have h19_ : PtrR (RS RI 1) u v25 el1 := hF.1
        clear hF
        refine doesG_un rfl ?_
        obtain ⟨b19_, o19_, _, rfl, hc19_, ⟨y19_1, rfl, h19_2⟩⟩ := h19_
        have hh19_2 := h19_2; obtain ⟨p19_3, q19_4, rfl⟩ := Sl.shape h19_2
        refine (does_load (u := (.slice p19_3 el1.length q19_4)) (ev rfl) Try.isAgg65 (Cells.at hc19_ 0 rfl)).mono ?_; rintro _ _ ⟨rfl, rfl⟩
        exact ⟨⟨(.slice p19_3 el1.length q19_4), rfl, (by assumption)⟩, Ext.refl _⟩
      refine R_p (fun u hu _ => does_move (u := (.slice p_b L_b.length q_b)) (ev rfl)) fun v27 => ?_
      refine R_p (fun u hu _ => does_move (u := (Iv (k : Int))) (ev rfl)) fun v28 => ?_
      refine R_d (fun u hu hF => ?_) (fun v29 => ?_)
      · have h21_ : v27 = (.slice p_b L_b.length q_b) := hF.1
        have h22_ : v28 = (Iv (k : Int)) := hF.2.1
        clear hF
        refine doesG_un rfl ?_
        obtain rfl := h21_
        obtain rfl := h22_
        refine (does_indexSl (R := (RS RI 1)) (i := (k : Int)) (xs := L_b) (e := el2) Try.underlying30 Try.sizeOf65 (ev rfl) (ev rfl) (Sl.ext (Sl.ext hv_b (RS.mono RI.mono) (Ext.gr X13 E20)) (RS.mono RI.mono) hu) (by omega) hel2).mono ?_; rintro v u' ⟨b, of, cs, hv, hc, hR, hu'⟩; subst hu'
        exact ⟨⟨b, of, cs, hv, hc, hR⟩, Ext.refl _⟩
      refine R_d (fun u hu hF => ?_) (fun v30 => ?_)
      · have h23_ : PtrR (RS RI 1) u v29 el2 := hF.1
        clear hF
        refine doesG_un rfl ?_
        obtain ⟨b23_, o23_, _, rfl, hc23_, ⟨y23_1, rfl, h23_2⟩⟩ := h23_
        have hh23_2 := h23_2; obtain ⟨p23_3, q23_4, rfl⟩ := Sl.shape h23_2
        refine (does_load (u := (.slice p23_3 el2.length q23_4)) (ev rfl) Try.isAgg65 (Cells.at hc23_ 0 rfl)).mono ?_; rintro _ _ ⟨rfl, rfl⟩
        exact ⟨⟨(.slice p23_3 el2.length q23_4), rfl, (by assumption)⟩, Ext.refl _⟩
      refine R_d (fun u hu hF => ?_) (fun v31 => ?_)
      · have h20_ : ∃ y_1 : Value, v26 = y_1 ∧ Sl RI 1 u y_1 el1 := hF.1
        have h24_ : ∃ y_1 : Value, v30 = y_1 ∧ Sl RI 1 u y_1 el2 := hF.2.1
        clear hF
        refine doesG_un rfl ?_
        obtain ⟨y20_1, rfl, h20_2⟩ := h20_
        have hh20_2 := h20_2; obtain ⟨p20_3, q20_4, rfl⟩ := Sl.shape h20_2
        obtain ⟨y24_1, rfl, h24_2⟩ := h24_
        have hh24_2 := h24_2; obtain ⟨p24_3, q24_4, rfl⟩ := Sl.shape h24_2
        refine (does_call (args := #[(.slice p20_3 el1.length q20_4), (.slice p24_3 el2.length q24_4)]) cal44 (evs rfl) (c_laws_eqInt64S (.slice p20_3 el1.length q20_4) el1 (.slice p24_3 el2.length q24_4) el2 _ hh20_2 hh24_2)).mono ?_; rintro v u' ⟨hx, hv⟩
        exact ⟨hv, hx⟩
      refine R_p (fun u hu hF => ?_) fun v32 => ?_
      · have h25_ : v31 = (Bo (sameX eqI el1 el2)) := hF.1
        clear hF; subst h25_
        exact does_not (ev rfl)
      refine RW_fin ?_; intro w33 E34 hP35
      obtain ⟨⟨⟨⟨⟨⟨⟨⟨⟨⟨-, -⟩, -⟩, -⟩, -⟩, -⟩, -⟩, -⟩, -⟩, -⟩, q36⟩ := hP35
      have X37 := Ext.gr X22 E34
      have q36 : v32 = (Bo (!(sameX eqI el1 el2))) := q36
      obtain rfl := q36
      refine fz ?_
      refine wn K18 ?_
      refine wp_cond_split (t := !(sameX eqI el1 el2)) (ev rfl) (fun c38 => ?_) (fun c38 => ?_)
      · rw [Bool.not_eq_true'] at c38
        have c38' := c38
        refine wr fun _ K39 => ?_
        refine ja (Bo false) ?_
        refine wn K39 ?_
        refine wp_ret ?_
        dsimp only [Exit.then, Exit.inBlock]
        refine ret_val (v := (Bo false)) (res_T rfl (slot rfl)) X37 ?_
        try simp only [hel1, hel2] at c4 c16 c38
        have x40 : (sameX eqIs L_a L_b) = false := by first | exact (sameX_len (by omega)) | exact (sameX_not (by omega) (by assumption) (by assumption) (by show sameX eqI _ _ = _; assumption)) | exact (sameX_all (by omega) (by omega) hs)
        exact (by first | with_reducible rfl | rw [x40] | rfl)
      rw [Bool.not_eq_false'] at c38
      have c38' := c38
      refine wp_skip (K17 _ _ ?_)
      refine wp_region_lit ?_
      refine jm (Iv (k : Int)) ?_
      refine jj (does_iarith (p := (k : Int)) (q := 1) (r := (k : Int) + 1) (ev rfl) (ev rfl) (.inl ⟨rfl, (in_i64 (by omega) (by omega)).symm⟩)) ?_
      refine ja (Iv ((k : Int) + 1)) ?_
      refine wpList_nil ?_
      refine ⟨k + 1, ⟨pk [(4, u9 4), (11, Iv (k : Int)), (12, (.slice p_a L_a.length q_a)), (13, Iv (L_a.length : Int)), (14, Bo (icmp .lss (k : Int) (L_a.length : Int))), (15, Iv (k : Int)), (16, Iv ((k : Int) + 1)), (17, v23), (18, v24), (19, v25), (20, v26), (21, v27), (22, v28), (23, v29), (24, v30), (25, v31), (26, Bo (!(sameX eqI el1 el2)))], ?_, (Ext.gr (Ext.gr E11 E20) E34), ?_⟩, ?_⟩
      · first | rfl | (simp only [Int.natCast_add, Int.natCast_one]; rfl)
      · exact ⟨by omega, SameXTo.step hs (by assumption) (by assumption) (by show sameX eqI _ _ = _; assumption)⟩
      · omega
    have c16' := c16
    (try simp only [icmp, bs] at c16')
    refine wp_exit ?_
    refine K7 _ _ ?_
    refine wr fun _ K41 => ?_
    refine ja (Bo true) ?_
    refine wn K41 ?_
    refine wp_ret ?_
    refine ret_val (v := (Bo true)) (res_T rfl (slot rfl)) X13 ?_
    have x42 : (sameX eqIs L_a L_b) = true := by first | exact (sameX_len (by omega)) | exact (sameX_not (by omega) (by assumption) (by assumption) (by show sameX eqI _ _ = _; assumption)) | exact (sameX_all (by omega) (by omega) hs)
    exact (by first | with_reducible rfl | rw [x42] | rfl)

/- laws.eqMesh -/
theorem c_laws_eqMesh (a : List Value) (A_a : MeshT) (b : List Value) (A_b : MeshT) (w : World) (hv_a : RMeshT w A_a a) (hv_b : RMeshT w A_b b) : Gives Try.prog 8 #[(.agg a.toArray), (.agg b.toArray)] w (fun v w' => v = (Bo (sameMesh A_a A_b))) := by
  obtain ⟨y1, y3, rfl, h2, h4⟩ := hv_a
  obtain ⟨y5, y7, rfl, h6, h8⟩ := hv_b
  have hs11 := h2; have hs11l := Sl.len h2; obtain ⟨p9, q10, rfl⟩ := Sl.shape h2
  have hs14 := h4; have hs14l := Sl.len h4; obtain ⟨p12, q13, rfl⟩ := Sl.shape h4
  have hs17 := h6; have hs17l := Sl.len h6; obtain ⟨p15, q16, rfl⟩ := Sl.shape h6
  have hs20 := h8; have hs20l := Sl.len h8; obtain ⟨p18, q19, rfl⟩ := Sl.shape h8
  refine enter [(.agg #[(.slice p9 A_a.places.length q10), (.slice p12 A_a.tris.length q13)]), (.agg #[(.slice p15 A_b.places.length q16), (.slice p18 A_b.tris.length q19)]), Ud, Ud, Ud, Ud, Ud, Ud, Ud, Ud, Ud, Ud, Ud, Ud, Ud, Ud, Ud] Try.func8 rfl Try.ntmps8 rfl ?_
  refine wr fun _ K21 => ?_
  refine sd (does_box (u := (.agg #[(.slice p9 A_a.places.length q10), (.slice p12 A_a.tris.length q13)])) (ev rfl)) ?_; rintro _ w26 ⟨b22, rfl, hb23, hB24, E25⟩
  change Blk _ _ [(.slice p9 A_a.places.length q10), (.slice p12 A_a.tris.length q13)] at hB24
  have X28 := Ext.gr (Ext.refl w) E25
  refine fz ?_
  refine sd (does_box (u := (.agg #[(.slice p15 A_b.places.length q16), (.slice p18 A_b.tris.length q19)])) (ev rfl)) ?_; rintro _ w33 ⟨b29, rfl, hb30, hB31, E32⟩
  change Blk _ _ [(.slice p15 A_b.places.length q16), (.slice p18 A_b.tris.length q19)] at hB31
  have X36 := Ext.gr X28 E32
  refine fz ?_
  refine ja (Bo false) ?_
  refine wn K21 ?_
  refine ws fun _ K37 => ?_
  refine wr fun _ K38 => ?_
  refine jj (does_fieldAddr (ev rfl) fa32_0) ?_
  refine jj (does_load (u := (.slice p9 A_a.places.length q10)) (ev rfl) Try.isAgg29 (Cells.at (Blk.cells (hB24.ext E32)) 0 rfl)) ?_
  refine jj (does_fieldAddr (ev rfl) fa32_0) ?_
  refine jj (does_load (u := (.slice p15 A_b.places.length q16)) (ev rfl) Try.isAgg29 (Cells.at (Blk.cells hB31) 0 rfl)) ?_
  refine sd (does_call (args := #[(.slice p9 A_a.places.length q10), (.slice p15 A_b.places.length q16)]) cal21 (evs rfl) (c_laws_eqVectorS (.slice p9 A_a.places.length q10) A_a.places (.slice p15 A_b.places.length q16) A_b.places _ (Sl.ext hs11 RV3.mono X36) (Sl.ext hs17 RV3.mono X36))) ?_; rintro _ w40 ⟨E39, rfl⟩
  have X41 := Ext.gr X36 E39
  refine fz ?_
  refine jj (does_not (ev rfl)) ?_
  refine wn K38 ?_
  refine wp_cond_split (t := !(sameX sameV A_a.places A_b.places)) (ev rfl) (fun c42 => ?_) (fun c42 => ?_)
  · rw [Bool.not_eq_true'] at c42
    have c42' := c42
    refine wr fun _ K43 => ?_
    refine ja (Bo false) ?_
    refine wn K43 ?_
    refine wp_ret ?_
    dsimp only [Exit.then, Exit.inBlock]
    refine ret_val (v := (Bo false)) (res_T rfl (slot rfl)) X41 ?_
    have x44 : (sameMesh A_a A_b) = false := by first | with_reducible rfl | (simp only [sameMesh, c42]; done) | (simp [sameMesh, c42]; done) | (revert c42; simp +contextual [sameMesh]; done) | (rcases c42' with hh | hh <;> simp only [hh, sameMesh, c42]; done) | (rcases c42' with hh | hh <;> simp_all [sameMesh]; done) | (rcases c42' with hh | hh | hh <;> simp_all [sameMesh]; done) | (rcases c42' with hh | hh | hh | hh <;> simp_all [sameMesh]; done) | (simp_all [sameMesh]; done) | rfl
    exact (by first | with_reducible rfl | rw [x44] | rfl)
  rw [Bool.not_eq_false'] at c42
  have c42' := c42
  refine wp_skip (K37 _ _ ?_)
  refine ws fun _ K45 => ?_
  refine wr fun _ K46 => ?_
  refine jj (does_fieldAddr (ev rfl) fa32_1) ?_
  refine jj (does_load (u := (.slice p12 A_a.tris.length q13)) (ev rfl) Try.isAgg30 (Cells.at (Blk.cells ((hB24.ext E32).ext E39)) 1 rfl)) ?_
  refine jj (does_fieldAddr (ev rfl) fa32_1) ?_
  refine jj (does_load (u := (.slice p18 A_b.tris.length q19)) (ev rfl) Try.isAgg30 (Cells.at (Blk.cells (hB31.ext E39)) 1 rfl)) ?_
  refine sd (does_call (args := #[(.slice p12 A_a.tris.length q13), (.slice p18 A_b.tris.length q19)]) cal22 (evs rfl) (c_laws_eqInt64SS (.slice p12 A_a.tris.length q13) A_a.tris (.slice p18 A_b.tris.length q19) A_b.tris _ (Sl.ext hs14 (RS.mono RI.mono) X41) (Sl.ext hs20 (RS.mono RI.mono) X41))) ?_; rintro _ w48 ⟨E47, rfl⟩
  have X49 := Ext.gr X41 E47
  refine fz ?_
  refine jj (does_not (ev rfl)) ?_
  refine wn K46 ?_
  refine wp_cond_split (t := !(sameX eqIs A_a.tris A_b.tris)) (ev rfl) (fun c50 => ?_) (fun c50 => ?_)
  · rw [Bool.not_eq_true'] at c50
    have c50' := c50
    refine wr fun _ K51 => ?_
    refine ja (Bo false) ?_
    refine wn K51 ?_
    refine wp_ret ?_
    dsimp only [Exit.then, Exit.inBlock]
    refine ret_val (v := (Bo false)) (res_T rfl (slot rfl)) X49 ?_
    have x52 : (sameMesh A_a A_b) = false := by first | with_reducible rfl | (simp only [sameMesh, c42, c50]; done) | (simp [sameMesh, c42, c50]; done) | (revert c42 c50; simp +contextual [sameMesh]; done) | (rcases c42' with hh | hh <;> simp only [hh, sameMesh, c42, c50]; done) | (rcases c50' with hh | hh <;> simp only [hh, sameMesh, c42, c50]; done) | (rcases c50' with hh | hh <;> simp_all [sameMesh]; done) | (rcases c50' with hh | hh | hh <;> simp_all [sameMesh]; done) | (rcases c50' with hh | hh | hh | hh <;> simp_all [sameMesh]; done) | (simp_all [sameMesh]; done) | rfl
    exact (by first | with_reducible rfl | rw [x52] | rfl)
  rw [Bool.not_eq_false'] at c50
  have c50' := c50
  refine wp_skip (K45 _ _ ?_)
  refine wr fun _ K53 => ?_
  refine ja (Bo true) ?_
  refine wn K53 ?_
  refine wp_ret ?_
  refine ret_val (v := (Bo true)) (res_T rfl (slot rfl)) X49 ?_
  have x54 : (sameMesh A_a A_b) = true := by first | with_reducible rfl | (simp only [sameMesh, c42, c50]; done) | (simp [sameMesh, c42, c50]; done) | (revert c42 c50; simp +contextual [sameMesh]; done) | (rcases c42' with hh | hh <;> simp only [hh, sameMesh, c42, c50]; done) | (rcases c50' with hh | hh <;> simp only [hh, sameMesh, c42, c50]; done) | (rcases c50' with hh | hh <;> simp_all [sameMesh]; done) | (rcases c50' with hh | hh | hh <;> simp_all [sameMesh]; done) | (rcases c50' with hh | hh | hh | hh <;> simp_all [sameMesh]; done) | (simp_all [sameMesh]; done) | rfl
  exact (by first | with_reducible rfl | rw [x54] | rfl)

/- laws.eqFloat32S -/
theorem c_laws_eqFloat32S (a : Value) (L_a : List Nat) (b : Value) (L_b : List Nat) (w : World) (hv_a : Sl RF 1 w a L_a) (hv_b : Sl RF 1 w b L_b) : Gives Try.prog 25 #[a, b] w (fun v w' => v = (Bo (sameL L_a L_b))) := by
  have hlen_a := Sl.len hv_a; obtain ⟨p_a, q_a, rfl⟩ := Sl.shape hv_a
  have hlen_b := Sl.len hv_b; obtain ⟨p_b, q_b, rfl⟩ := Sl.shape hv_b
  refine enter [(.slice p_a L_a.length q_a), (.slice p_b L_b.length q_b), Ud, Ud, Ud, Ud, Ud, Ud, Ud, Ud, Ud, Ud, Ud, Ud, Ud, Ud, Ud, Ud, Ud, Ud, Ud, Ud, Ud, Ud, Ud, Ud, Ud, Ud, Ud] Try.func25 rfl Try.ntmps25 rfl ?_
  refine wr fun _ K1 => ?_
  refine ja (Bo false) ?_
  refine wn K1 ?_
  refine ws fun _ K2 => ?_
  refine wr fun _ K3 => ?_
  refine jm (.slice p_a L_a.length q_a) ?_
  refine jj (does_len_slice Try.underlying25 (ev rfl)) ?_
  refine jm (.slice p_b L_b.length q_b) ?_
  refine jj (does_len_slice Try.underlying25 (ev rfl)) ?_
  refine jj (does_icmp (p := (L_a.length : Int)) (q := (L_b.length : Int)) (.inr (.inl rfl)) (ev rfl) (ev rfl)) ?_
  refine wn K3 ?_
  refine wp_cond_split (t := icmp .neq (L_a.length : Int) (L_b.length : Int)) (ev rfl) (fun c4 => ?_) (fun c4 => ?_)
  · have c4' := c4
    (try simp only [icmp, bs] at c4')
    refine wr fun _ K5 => ?_
    refine ja (Bo false) ?_
    refine wn K5 ?_
    refine wp_ret ?_
    dsimp only [Exit.then, Exit.inBlock]
    refine ret_val (v := (Bo false)) (res_T rfl (slot rfl)) (Ext.refl w) ?_
    have x6 : (sameL L_a L_b) = false := by first | exact (sameL_len (by omega)) | exact (sameL_not (by omega) (by assumption) (by assumption) (by simp_all)) | exact (sameL_all (by omega) (by omega) hs)
    exact (by first | with_reducible rfl | rw [x6] | rfl)
  have c4' := c4
  (try simp only [icmp, bs] at c4')
  refine wp_skip (K2 _ _ ?_)
  refine ws fun _ K7 => ?_
  refine wr fun _ K8 => ?_
  refine ja (Iv 0) ?_
  refine wn K8 ?_
  refine wp_block ?_
  refine loop_ghost (σ := Nat) (fun k a w' => ∃ u9 : Nat → Value, a = fr [(.slice p_a L_a.length q_a), (.slice p_b L_b.length q_b), Ud, Ud, (u9 4), (Iv (k : Int)), (.slice p_a L_a.length q_a), (Iv (L_a.length : Int)), (.slice p_b L_b.length q_b), (Iv (L_b.length : Int)), (Bo (icmp .neq (L_a.length : Int) (L_b.length : Int))), (u9 11), (u9 12), (u9 13), (u9 14), (u9 15), (u9 16), (u9 17), (u9 18), (u9 19), (u9 20), (u9 21), (u9 22), (u9 23), (u9 24), (u9 25), (u9 26), (u9 27), (u9 28)] ∧ Ext w w' ∧ (k ≤ L_a.length ∧ SameTo L_a L_b k)) (fun k => L_a.length - k) 0 ?_ ?_
  · refine ⟨pk [(4, Bo false)], rfl, Ext.refl _, ?_⟩
    exact ⟨Nat.zero_le _, SameTo.zero⟩
  · rintro k a w10 ⟨u9, rfl, E11, ⟨hk, hs⟩⟩
    have X13 := Ext.gr (Ext.refl w) E11
    refine ws fun _ K14 => ?_
    refine wr fun _ K15 => ?_
    refine jm (Iv (k : Int)) ?_
    refine jm (.slice p_a L_a.length q_a) ?_
    refine jj (does_len_slice Try.underlying25 (ev rfl)) ?_
    refine jj (does_icmp (p := (k : Int)) (q := (L_a.length : Int)) (.inr (.inr (.inl rfl))) (ev rfl) (ev rfl)) ?_
    refine wn K15 ?_
    refine wp_cond_split (t := icmp .lss (k : Int) (L_a.length : Int)) (ev rfl) (fun c16 => ?_) (fun c16 => ?_)
    · have c16' := c16
      (try simp only [icmp, bs] at c16')
      refine wp_skip (K14 _ _ ?_)
      refine ws fun _ K17 => ?_
      refine wp_block ?_
      refine ws fun _ K18 => ?_
      obtain ⟨el1, hel1⟩ : ∃ e, L_a[k]? = some e := ⟨_, List.getElem?_eq_getElem (by omega)⟩
      obtain ⟨el2, hel2⟩ : ∃ e, L_b[k]? = some e := ⟨_, List.getElem?_eq_getElem (by omega)⟩
      obtain ⟨β1, hβ1⟩ : ∃ b : Bool, b = (sameF (fwid el1) (fwid el2)) := ⟨_, rfl⟩
      refine region_draw (
        [Fact.pure [] (fun v => v = (.slice p_a L_a.length q_a)),
    Fact.pure [] (fun v => v = (Iv (k : Int))),
    Fact.mem [17, 18] (fun v w' => PtrR RF w' v el1) (by intro v w1 w2 hx h; exact h.ext RF.mono hx),
    Fact.pure [19] (fun v => ∃ r_1 : Nat, v = (Fl r_1) ∧ cf .f32 r_1 = el1),
    Fact.pure [20] (fun v => ∃ r_1 : Nat, v = (Fd r_1) ∧ cf .f64 r_1 = fwid el1),
    Fact.pure [] (fun v => v = (.slice p_b L_b.length q_b)),
    Fact.pure [] (fun v => v = (Iv (k : Int))),
    Fact.mem [22, 23] (fun v w' => PtrR RF w' v el2) (by intro v w1 w2 hx h; exact h.ext RF.mono hx),
    Fact.pure [24] (fun v => ∃ r_1 : Nat, v = (Fl r_1) ∧ cf .f32 r_1 = el2),
    Fact.pure [25] (fun v => ∃ r_1 : Nat, v = (Fd r_1) ∧ cf .f64 r_1 = fwid el2),
    Fact.pure [21, 26] (fun v => v = (Bo β1)),
    Fact.pure [27] (fun v => v = (Bo (!β1)))]) mixed (by kernel_rfl) (by intro _ _ d _ _ h; cases d <;> exact h) ?_
      obtain ⟨w19, hw21⟩ : ∃ w', w' = World.drew w10 := ⟨_, rfl⟩; rw [← hw21]; have E20 : Ext w10 w19 := by rw [hw21]; exact Ext.draw _
      clear hw21
      have X22 := Ext.gr X13 E20
      refine R_p (fun u hu _ => does_move (u := (.slice p_a L_a.length q_a)) (ev rfl)) fun v23 => ?_
      refine R_p (fun u hu _ => does_move (u := (Iv (k : Int))) (ev rfl)) fun v24 => ?_
      refine R_d (fun u hu hF => ?_) (fun v25 => ?_)
      · have h17_ : v23 = (.slice p_a L_a.length q_a) := hF.1
        have h18_ : v24 = (Iv (k : Int)) := hF.2.1
        clear hF
        refine doesG_un rfl ?_
        obtain rfl := h17_
        obtain rfl := h18_
        refine (does_indexSl (R := RF) (i := (k : Int)) (xs := L_a) (e := el1) Try.underlying25 Try.sizeOf22 (ev rfl) (ev rfl) (Sl.ext (Sl.ext hv_a RF.mono (Ext.gr X13 E20)) RF.mono hu) (by omega) hel1).mono ?_; rintro v u' ⟨b, of, cs, hv, hc, hR, hu'⟩; subst hu'
        exact ⟨⟨b, of, cs, hv, hc, hR⟩, Ext.refl _⟩
      refine R_d (fun u hu hF => ?_) (fun v26 => ?_)
      · have h19_ : PtrR RF u v25 el1 := hF.1
        clear hF
        refine doesG_un rfl ?_
        obtain ⟨b19_, o19_, _, rfl, hc19_, ⟨r19_1, rfl, h19_2⟩⟩ := h19_
        refine (does_load (u := (Fl r19_1)) (ev rfl) Try.isAgg22 (Cells.at hc19_ 0 rfl)).mono ?_; rintro _ _ ⟨rfl, rfl⟩
        exact ⟨⟨r19_1, rfl, (by simp only [h19_2])⟩, Ext.refl _⟩
      refine R_d (fun u hu hF => ?_) (fun v27 => ?_)
      · have h20_ : ∃ r_1 : Nat, v26 = (Fl r_1) ∧ cf .f32 r_1 = el1 := hF.1
        clear hF
        refine doesG_un rfl ?_
        obtain ⟨r20_1, rfl, h20_2⟩ := h20_
        refine (does_widen Try.underlying22 Try.underlying57 (ev rfl)).mono ?_; rintro _ _ ⟨r, rfl, hr, hx⟩
        exact ⟨⟨r, rfl, (by simp only [hr, h20_2])⟩, hx⟩
      refine R_p (fun u hu _ => does_move (u := (.slice p_b L_b.length q_b)) (ev rfl)) fun v28 => ?_
      refine R_p (fun u hu _ => does_move (u := (Iv (k : Int))) (ev rfl)) fun v29 => ?_
      refine R_d (fun u hu hF => ?_) (fun v30 => ?_)
      · have h22_ : v28 = (.slice p_b L_b.length q_b) := hF.1
        have h23_ : v29 = (Iv (k : Int)) := hF.2.1
        clear hF
        refine doesG_un rfl ?_
        obtain rfl := h22_
        obtain rfl := h23_
        refine (does_indexSl (R := RF) (i := (k : Int)) (xs := L_b) (e := el2) Try.underlying25 Try.sizeOf22 (ev rfl) (ev rfl) (Sl.ext (Sl.ext hv_b RF.mono (Ext.gr X13 E20)) RF.mono hu) (by omega) hel2).mono ?_; rintro v u' ⟨b, of, cs, hv, hc, hR, hu'⟩; subst hu'
        exact ⟨⟨b, of, cs, hv, hc, hR⟩, Ext.refl _⟩
      refine R_d (fun u hu hF => ?_) (fun v31 => ?_)
      · have h24_ : PtrR RF u v30 el2 := hF.1
        clear hF
        refine doesG_un rfl ?_
        obtain ⟨b24_, o24_, _, rfl, hc24_, ⟨r24_1, rfl, h24_2⟩⟩ := h24_
        refine (does_load (u := (Fl r24_1)) (ev rfl) Try.isAgg22 (Cells.at hc24_ 0 rfl)).mono ?_; rintro _ _ ⟨rfl, rfl⟩
        exact ⟨⟨r24_1, rfl, (by simp only [h24_2])⟩, Ext.refl _⟩
      refine R_d (fun u hu hF => ?_) (fun v32 => ?_)
      · have h25_ : ∃ r_1 : Nat, v31 = (Fl r_1) ∧ cf .f32 r_1 = el2 := hF.1
        clear hF
        refine doesG_un rfl ?_
        obtain ⟨r25_1, rfl, h25_2⟩ := h25_
        refine (does_widen Try.underlying22 Try.underlying57 (ev rfl)).mono ?_; rintro _ _ ⟨r, rfl, hr, hx⟩
        exact ⟨⟨r, rfl, (by simp only [hr, h25_2])⟩, hx⟩
      refine R_d (fun u hu hF => ?_) (fun v33 => ?_)
      · have h21_ : ∃ r_1 : Nat, v27 = (Fd r_1) ∧ cf .f64 r_1 = fwid el1 := hF.1
        have h26_ : ∃ r_1 : Nat, v32 = (Fd r_1) ∧ cf .f64 r_1 = fwid el2 := hF.2.1
        clear hF
        refine doesG_un rfl ?_
        obtain ⟨r21_1, rfl, h21_2⟩ := h21_
        obtain ⟨r26_1, rfl, h26_2⟩ := h26_
        refine (does_call (args := #[(Fd r21_1), (Fd r26_1)]) cal24 (evs rfl) (c_laws_sameFloat r21_1 r26_1 _)).mono ?_; rintro v u' ⟨hx, hv⟩
        exact ⟨hv.trans (by simp only [hβ1, h21_2, h26_2]), hx⟩
      refine R_p (fun u hu hF => ?_) fun v34 => ?_
      · have h27_ : v33 = (Bo β1) := hF.1
        clear hF; subst h27_
        exact does_not (ev rfl)
      refine RW_fin ?_; intro w35 E36 hP37
      obtain ⟨⟨⟨⟨⟨⟨⟨⟨⟨⟨⟨⟨-, -⟩, -⟩, -⟩, -⟩, -⟩, -⟩, -⟩, -⟩, -⟩, -⟩, -⟩, q38⟩ := hP37
      have X39 := Ext.gr X22 E36
      have q38 : v34 = (Bo (!β1)) := q38
      obtain rfl := q38
      refine fz ?_
      refine wn K18 ?_
      refine wp_cond_split (t := !β1) (ev rfl) (fun c40 => ?_) (fun c40 => ?_)
      · rw [Bool.not_eq_true'] at c40
        have c40' := c40
        (try simp only [hβ1] at c40')
        (try simp only [icmp, bs] at c40')
        refine wr fun _ K41 => ?_
        refine ja (Bo false) ?_
        refine wn K41 ?_
        refine wp_ret ?_
        dsimp only [Exit.then, Exit.inBlock]
        refine ret_val (v := (Bo false)) (res_T rfl (slot rfl)) X39 ?_
        try simp only [hβ1, hel1, hel2] at c4 c16 c40
        have x42 : (sameL L_a L_b) = false := by first | exact (sameL_len (by omega)) | exact (sameL_not (by omega) (by assumption) (by assumption) (by simp_all)) | exact (sameL_all (by omega) (by omega) hs)
        exact (by first | with_reducible rfl | rw [x42] | rfl)
      rw [Bool.not_eq_false'] at c40
      have c40' := c40
      (try simp only [hβ1] at c40')
      (try simp only [icmp, bs] at c40')
      refine wp_skip (K17 _ _ ?_)
      refine wp_region_lit ?_
      refine jm (Iv (k : Int)) ?_
      refine jj (does_iarith (p := (k : Int)) (q := 1) (r := (k : Int) + 1) (ev rfl) (ev rfl) (.inl ⟨rfl, (in_i64 (by omega) (by omega)).symm⟩)) ?_
      refine ja (Iv ((k : Int) + 1)) ?_
      refine wpList_nil ?_
      refine ⟨k + 1, ⟨pk [(4, u9 4), (11, Iv (k : Int)), (12, (.slice p_a L_a.length q_a)), (13, Iv (L_a.length : Int)), (14, Bo (icmp .lss (k : Int) (L_a.length : Int))), (15, Iv (k : Int)), (16, Iv ((k : Int) + 1)), (17, v23), (18, v24), (19, v25), (20, v26), (21, v27), (22, v28), (23, v29), (24, v30), (25, v31), (26, v32), (27, v33), (28, Bo (!β1))], ?_, (Ext.gr (Ext.gr E11 E20) E36), ?_⟩, ?_⟩
      · first | rfl | (simp only [Int.natCast_add, Int.natCast_one]; rfl)
      · exact ⟨by omega, SameTo.step hs (by assumption) (by assumption) (by simp_all)⟩
      · omega
    have c16' := c16
    (try simp only [icmp, bs] at c16')
    refine wp_exit ?_
    refine K7 _ _ ?_
    refine wr fun _ K43 => ?_
    refine ja (Bo true) ?_
    refine wn K43 ?_
    refine wp_ret ?_
    refine ret_val (v := (Bo true)) (res_T rfl (slot rfl)) X13 ?_
    have x44 : (sameL L_a L_b) = true := by first | exact (sameL_len (by omega)) | exact (sameL_not (by omega) (by assumption) (by assumption) (by simp_all)) | exact (sameL_all (by omega) (by omega) hs)
    exact (by first | with_reducible rfl | rw [x44] | rfl)

/- laws.eqGrid -/
theorem c_laws_eqGrid (a : List Value) (A_a : GridT) (b : List Value) (A_b : GridT) (w : World) (hv_a : RGridT w A_a a) (hv_b : RGridT w A_b b) : Gives Try.prog 9 #[(.agg a.toArray), (.agg b.toArray)] w (fun v w' => v = (Bo (sameG A_a A_b))) := by
  obtain ⟨r1, r3, r5, r7, y9, rfl, h2, h4, h6, h8, h10⟩ := hv_a
  obtain ⟨r11, r13, r15, r17, y19, rfl, h12, h14, h16, h18, h20⟩ := hv_b
  have hs23 := h10; have hs23l := Sl.len h10; obtain ⟨p21, q22, rfl⟩ := Sl.shape h10
  have hs26 := h20; have hs26l := Sl.len h20; obtain ⟨p24, q25, rfl⟩ := Sl.shape h20
  refine enter [(.agg #[(Fl r1), (Fl r3), (Fl r5), (Fl r7), (Iv A_a.x), (Iv A_a.y), (Iv A_a.z), (.slice p21 A_a.vals.length q22)]), (.agg #[(Fl r11), (Fl r13), (Fl r15), (Fl r17), (Iv A_b.x), (Iv A_b.y), (Iv A_b.z), (.slice p24 A_b.vals.length q25)]), Ud, Ud, Ud, Ud, Ud, Ud, Ud, Ud, Ud, Ud, Ud, Ud, Ud, Ud, Ud, Ud, Ud, Ud, Ud, Ud, Ud, Ud, Ud, Ud, Ud, Ud, Ud, Ud, Ud, Ud, Ud, Ud, Ud, Ud, Ud, Ud, Ud, Ud] Try.func9 rfl Try.ntmps9 rfl ?_
  refine wr fun _ K27 => ?_
  refine sd (does_box (u := (.agg #[(Fl r1), (Fl r3), (Fl r5), (Fl r7), (Iv A_a.x), (Iv A_a.y), (Iv A_a.z), (.slice p21 A_a.vals.length q22)])) (ev rfl)) ?_; rintro _ w32 ⟨b28, rfl, hb29, hB30, E31⟩
  change Blk _ _ [(Fl r1), (Fl r3), (Fl r5), (Fl r7), (Iv A_a.x), (Iv A_a.y), (Iv A_a.z), (.slice p21 A_a.vals.length q22)] at hB30
  have X34 := Ext.gr (Ext.refl w) E31
  refine fz ?_
  refine sd (does_box (u := (.agg #[(Fl r11), (Fl r13), (Fl r15), (Fl r17), (Iv A_b.x), (Iv A_b.y), (Iv A_b.z), (.slice p24 A_b.vals.length q25)])) (ev rfl)) ?_; rintro _ w39 ⟨b35, rfl, hb36, hB37, E38⟩
  change Blk _ _ [(Fl r11), (Fl r13), (Fl r15), (Fl r17), (Iv A_b.x), (Iv A_b.y), (Iv A_b.z), (.slice p24 A_b.vals.length q25)] at hB37
  have X42 := Ext.gr X34 E38
  refine fz ?_
  refine ja (Bo false) ?_
  refine wn K27 ?_
  refine ws fun _ K43 => ?_
  refine wr fun _ K44 => ?_
  refine jj (does_fieldAddr (ev rfl) fa37_0) ?_
  refine jj (does_loadAgg (cs := [(Fl r1), (Fl r3), (Fl r5)]) (ev rfl) Try.isAgg35 Try.sizeOf35 (Cells.sub (Blk.cells (hB30.ext E38)) 0 3) rfl) ?_
  refine jj (does_fieldAddr (ev rfl) fa37_0) ?_
  refine jj (does_loadAgg (cs := [(Fl r11), (Fl r13), (Fl r15)]) (ev rfl) Try.isAgg35 Try.sizeOf35 (Cells.sub (Blk.cells hB37) 0 3) rfl) ?_
  refine sd (does_call (args := #[(.agg #[(Fl r1), (Fl r3), (Fl r5)]), (.agg #[(Fl r11), (Fl r13), (Fl r15)])]) cal23 (evs rfl) (c_laws_eqVector [(Fl r1), (Fl r3), (Fl r5)] A_a.low [(Fl r11), (Fl r13), (Fl r15)] A_b.low _ ⟨r1, r3, r5, rfl, h2, h4, h6⟩ ⟨r11, r13, r15, rfl, h12, h14, h16⟩)) ?_; rintro _ w46 ⟨E45, rfl⟩
  have X47 := Ext.gr X42 E45
  refine fz ?_
  refine jj (does_not (ev rfl)) ?_
  refine wn K44 ?_
  refine wp_cond_split (t := !(sameV A_a.low A_b.low)) (ev rfl) (fun c48 => ?_) (fun c48 => ?_)
  · rw [Bool.not_eq_true'] at c48
    have c48' := c48
    refine wr fun _ K49 => ?_
    refine ja (Bo false) ?_
    refine wn K49 ?_
    refine wp_ret ?_
    dsimp only [Exit.then, Exit.inBlock]
    refine ret_val (v := (Bo false)) (res_T rfl (slot rfl)) X47 ?_
    try simp only [h2, h4, h6, h8, h12, h14, h16, h18] at c48
    have x50 : (sameG A_a A_b) = false := by first | with_reducible rfl | (simp only [sameG, icmp, h2, h4, h6, h8, h12, h14, h16, h18, c48]; done) | (simp [sameG, icmp, h2, h4, h6, h8, h12, h14, h16, h18, c48]; done) | (revert c48; simp +contextual [sameG, icmp, h2, h4, h6, h8, h12, h14, h16, h18]; done) | (rcases c48' with hh | hh <;> simp only [hh, sameG, icmp, h2, h4, h6, h8, h12, h14, h16, h18, c48]; done) | (rcases c48' with hh | hh <;> simp_all [sameG, icmp]; done) | (rcases c48' with hh | hh | hh <;> simp_all [sameG, icmp]; done) | (rcases c48' with hh | hh | hh | hh <;> simp_all [sameG, icmp]; done) | (simp_all [sameG, icmp]; done) | rfl
    exact (by first | with_reducible rfl | rw [x50] | rfl)
  rw [Bool.not_eq_false'] at c48
  have c48' := c48
  refine wp_skip (K43 _ _ ?_)
  refine ws fun _ K51 => ?_
  refine wr fun _ K52 => ?_
  refine jj (does_fieldAddr (ev rfl) fa37_1) ?_
  refine jj (does_load (u := (Fl r7)) (ev rfl) Try.isAgg22 (Cells.at (Blk.cells ((hB30.ext E38).ext E45)) 3 rfl)) ?_
  refine sd (does_widen Try.underlying22 Try.underlying57 (ev rfl)) ?_; rintro _ w56 ⟨r53, rfl, h54, E55⟩
  have X57 := Ext.gr X47 E55
  refine fz ?_
  refine jj (does_fieldAddr (ev rfl) fa37_1) ?_
  refine jj (does_load (u := (Fl r17)) (ev rfl) Try.isAgg22 (Cells.at (Blk.cells ((hB37.ext E45).ext E55)) 3 rfl)) ?_
  refine sd (does_widen Try.underlying22 Try.underlying57 (ev rfl)) ?_; rintro _ w61 ⟨r58, rfl, h59, E60⟩
  have X62 := Ext.gr X57 E60
  refine fz ?_
  refine sd (does_call (args := #[(Fd r53), (Fd r58)]) cal24 (evs rfl) (c_laws_sameFloat r53 r58 _)) ?_; rintro _ w64 ⟨E63, rfl⟩
  have X65 := Ext.gr X62 E63
  refine fz ?_
  refine jj (does_not (ev rfl)) ?_
  refine wn K52 ?_
  refine wp_cond_split (t := !(sameF (cf .f64 r53) (cf .f64 r58))) (ev rfl) (fun c66 => ?_) (fun c66 => ?_)
  · rw [Bool.not_eq_true'] at c66
    have c66' := c66
    refine wr fun _ K67 => ?_
    refine ja (Bo false) ?_
    refine wn K67 ?_
    refine wp_ret ?_
    dsimp only [Exit.then, Exit.inBlock]
    refine ret_val (v := (Bo false)) (res_T rfl (slot rfl)) X65 ?_
    try simp only [h2, h4, h6, h8, h12, h14, h16, h18, h54, h59] at c48 c66
    have x68 : (sameG A_a A_b) = false := by first | with_reducible rfl | (simp only [sameG, icmp, h2, h4, h6, h8, h12, h14, h16, h18, h54, h59, c48, c66]; done) | (simp [sameG, icmp, h2, h4, h6, h8, h12, h14, h16, h18, h54, h59, c48, c66]; done) | (revert c48 c66; simp +contextual [sameG, icmp, h2, h4, h6, h8, h12, h14, h16, h18, h54, h59]; done) | (rcases c48' with hh | hh <;> simp only [hh, sameG, icmp, h2, h4, h6, h8, h12, h14, h16, h18, h54, h59, c48, c66]; done) | (rcases c66' with hh | hh <;> simp only [hh, sameG, icmp, h2, h4, h6, h8, h12, h14, h16, h18, h54, h59, c48, c66]; done) | (rcases c66' with hh | hh <;> simp_all [sameG, icmp]; done) | (rcases c66' with hh | hh | hh <;> simp_all [sameG, icmp]; done) | (rcases c66' with hh | hh | hh | hh <;> simp_all [sameG, icmp]; done) | (simp_all [sameG, icmp]; done) | rfl
    exact (by first | with_reducible rfl | rw [x68] | rfl)
  rw [Bool.not_eq_false'] at c66
  have c66' := c66
  refine wp_skip (K51 _ _ ?_)
  refine ws fun _ K69 => ?_
  refine wr fun _ K70 => ?_
  refine jj (does_fieldAddr (ev rfl) fa37_2) ?_
  refine jj (does_load (u := (Iv A_a.x)) (ev rfl) Try.isAgg2 (Cells.at (Blk.cells (((((hB30.ext E38).ext E45).ext E55).ext E60).ext E63)) 4 rfl)) ?_
  refine jj (does_fieldAddr (ev rfl) fa37_2) ?_
  refine jj (does_load (u := (Iv A_b.x)) (ev rfl) Try.isAgg2 (Cells.at (Blk.cells ((((hB37.ext E45).ext E55).ext E60).ext E63)) 4 rfl)) ?_
  refine jj (does_icmp (p := A_a.x) (q := A_b.x) (.inr (.inl rfl)) (ev rfl) (ev rfl)) ?_
  refine wn K70 ?_
  refine wp_cond_split (t := icmp .neq A_a.x A_b.x) (ev rfl) (fun c71 => ?_) (fun c71 => ?_)
  · have c71' := c71
    (try simp only [icmp, bs] at c71')
    refine wr fun _ K72 => ?_
    refine ja (Bo false) ?_
    refine wn K72 ?_
    refine wp_ret ?_
    dsimp only [Exit.then, Exit.inBlock]
    refine ret_val (v := (Bo false)) (res_T rfl (slot rfl)) X65 ?_
    try simp only [h2, h4, h6, h8, h12, h14, h16, h18, h54, h59] at c48 c66 c71
    have x73 : (sameG A_a A_b) = false := by first | with_reducible rfl | (simp only [sameG, icmp, h2, h4, h6, h8, h12, h14, h16, h18, h54, h59, c48, c66, c71]; done) | (simp [sameG, icmp, h2, h4, h6, h8, h12, h14, h16, h18, h54, h59, c48, c66, c71]; done) | (revert c48 c66 c71; simp +contextual [sameG, icmp, h2, h4, h6, h8, h12, h14, h16, h18, h54, h59]; done) | (rcases c48' with hh | hh <;> simp only [hh, sameG, icmp, h2, h4, h6, h8, h12, h14, h16, h18, h54, h59, c48, c66, c71]; done) | (rcases c66' with hh | hh <;> simp only [hh, sameG, icmp, h2, h4, h6, h8, h12, h14, h16, h18, h54, h59, c48, c66, c71]; done) | (rcases c71' with hh | hh <;> simp only [hh, sameG, icmp, h2, h4, h6, h8, h12, h14, h16, h18, h54, h59, c48, c66, c71]; done) | (rcases c71' with hh | hh <;> simp_all [sameG, icmp]; done) | (rcases c71' with hh | hh | hh <;> simp_all [sameG, icmp]; done) | (rcases c71' with hh | hh | hh | hh <;> simp_all [sameG, icmp]; done) | (simp_all [sameG, icmp]; done) | rfl
    exact (by first | with_reducible rfl | rw [x73] | rfl)
  have c71' := c71
  (try simp only [icmp, bs] at c71')
  refine wp_skip (K69 _ _ ?_)
  refine ws fun _ K74 => ?_
  refine wr fun _ K75 => ?_
  refine jj (does_fieldAddr (ev rfl) fa37_3) ?_
  refine jj (does_load (u := (Iv A_a.y)) (ev rfl) Try.isAgg2 (Cells.at (Blk.cells (((((hB30.ext E38).ext E45).ext E55).ext E60).ext E63)) 5 rfl)) ?_
  refine jj (does_fieldAddr (ev rfl) fa37_3) ?_
  refine jj (does_load (u := (Iv A_b.y)) (ev rfl) Try.isAgg2 (Cells.at (Blk.cells ((((hB37.ext E45).ext E55).ext E60).ext E63)) 5 rfl)) ?_
  refine jj (does_icmp (p := A_a.y) (q := A_b.y) (.inr (.inl rfl)) (ev rfl) (ev rfl)) ?_
  refine wn K75 ?_
  refine wp_cond_split (t := icmp .neq A_a.y A_b.y) (ev rfl) (fun c76 => ?_) (fun c76 => ?_)
  · have c76' := c76
    (try simp only [icmp, bs] at c76')
    refine wr fun _ K77 => ?_
    refine ja (Bo false) ?_
    refine wn K77 ?_
    refine wp_ret ?_
    dsimp only [Exit.then, Exit.inBlock]
    refine ret_val (v := (Bo false)) (res_T rfl (slot rfl)) X65 ?_
    try simp only [h2, h4, h6, h8, h12, h14, h16, h18, h54, h59] at c48 c66 c71 c76
    have x78 : (sameG A_a A_b) = false := by first | with_reducible rfl | (simp only [sameG, icmp, h2, h4, h6, h8, h12, h14, h16, h18, h54, h59, c48, c66, c71, c76]; done) | (simp [sameG, icmp, h2, h4, h6, h8, h12, h14, h16, h18, h54, h59, c48, c66, c71, c76]; done) | (revert c48 c66 c71 c76; simp +contextual [sameG, icmp, h2, h4, h6, h8, h12, h14, h16, h18, h54, h59]; done) | (rcases c48' with hh | hh <;> simp only [hh, sameG, icmp, h2, h4, h6, h8, h12, h14, h16, h18, h54, h59, c48, c66, c71, c76]; done) | (rcases c66' with hh | hh <;> simp only [hh, sameG, icmp, h2, h4, h6, h8, h12, h14, h16, h18, h54, h59, c48, c66, c71, c76]; done) | (rcases c71' with hh | hh <;> simp only [hh, sameG, icmp, h2, h4, h6, h8, h12, h14, h16, h18, h54, h59, c48, c66, c71, c76]; done) | (rcases c76' with hh | hh <;> simp only [hh, sameG, icmp, h2, h4, h6, h8, h12, h14, h16, h18, h54, h59, c48, c66, c71, c76]; done) | (rcases c76' with hh | hh <;> simp_all [sameG, icmp]; done) | (rcases c76' with hh | hh | hh <;> simp_all [sameG, icmp]; done) | (rcases c76' with hh | hh | hh | hh <;> simp_all [sameG, icmp]; done) | (simp_all [sameG, icmp]; done) | rfl
    exact (by first | with_reducible rfl | rw [x78] | rfl)
  have c76' := c76
  (try simp only [icmp, bs] at c76')
  refine wp_skip (K74 _ _ ?_)
  refine ws fun _ K79 => ?_
  refine wr fun _ K80 => ?_
  refine jj (does_fieldAddr (ev rfl) fa37_4) ?_
  refine jj (does_load (u := (Iv A_a.z)) (ev rfl) Try.isAgg2 (Cells.at (Blk.cells (((((hB30.ext E38).ext E45).ext E55).ext E60).ext E63)) 6 rfl)) ?_
  refine jj (does_fieldAddr (ev rfl) fa37_4) ?_
  refine jj (does_load (u := (Iv A_b.z)) (ev rfl) Try.isAgg2 (Cells.at (Blk.cells ((((hB37.ext E45).ext E55).ext E60).ext E63)) 6 rfl)) ?_
  refine jj (does_icmp (p := A_a.z) (q := A_b.z) (.inr (.inl rfl)) (ev rfl) (ev rfl)) ?_
  refine wn K80 ?_
  refine wp_cond_split (t := icmp .neq A_a.z A_b.z) (ev rfl) (fun c81 => ?_) (fun c81 => ?_)
  · have c81' := c81
    (try simp only [icmp, bs] at c81')
    refine wr fun _ K82 => ?_
    refine ja (Bo false) ?_
    refine wn K82 ?_
    refine wp_ret ?_
    dsimp only [Exit.then, Exit.inBlock]
    refine ret_val (v := (Bo false)) (res_T rfl (slot rfl)) X65 ?_
    try simp only [h2, h4, h6, h8, h12, h14, h16, h18, h54, h59] at c48 c66 c71 c76 c81
    have x83 : (sameG A_a A_b) = false := by first | with_reducible rfl | (simp only [sameG, icmp, h2, h4, h6, h8, h12, h14, h16, h18, h54, h59, c48, c66, c71, c76, c81]; done) | (simp [sameG, icmp, h2, h4, h6, h8, h12, h14, h16, h18, h54, h59, c48, c66, c71, c76, c81]; done) | (revert c48 c66 c71 c76 c81; simp +contextual [sameG, icmp, h2, h4, h6, h8, h12, h14, h16, h18, h54, h59]; done) | (rcases c48' with hh | hh <;> simp only [hh, sameG, icmp, h2, h4, h6, h8, h12, h14, h16, h18, h54, h59, c48, c66, c71, c76, c81]; done) | (rcases c66' with hh | hh <;> simp only [hh, sameG, icmp, h2, h4, h6, h8, h12, h14, h16, h18, h54, h59, c48, c66, c71, c76, c81]; done) | (rcases c71' with hh | hh <;> simp only [hh, sameG, icmp, h2, h4, h6, h8, h12, h14, h16, h18, h54, h59, c48, c66, c71, c76, c81]; done) | (rcases c76' with hh | hh <;> simp only [hh, sameG, icmp, h2, h4, h6, h8, h12, h14, h16, h18, h54, h59, c48, c66, c71, c76, c81]; done) | (rcases c81' with hh | hh <;> simp only [hh, sameG, icmp, h2, h4, h6, h8, h12, h14, h16, h18, h54, h59, c48, c66, c71, c76, c81]; done) | (rcases c81' with hh | hh <;> simp_all [sameG, icmp]; done) | (rcases c81' with hh | hh | hh <;> simp_all [sameG, icmp]; done) | (rcases c81' with hh | hh | hh | hh <;> simp_all [sameG, icmp]; done) | (simp_all [sameG, icmp]; done) | rfl
    exact (by first | with_reducible rfl | rw [x83] | rfl)
  have c81' := c81
  (try simp only [icmp, bs] at c81')
  refine wp_skip (K79 _ _ ?_)
  refine ws fun _ K84 => ?_
  refine wr fun _ K85 => ?_
  refine jj (does_fieldAddr (ev rfl) fa37_5) ?_
  refine jj (does_load (u := (.slice p21 A_a.vals.length q22)) (ev rfl) Try.isAgg25 (Cells.at (Blk.cells (((((hB30.ext E38).ext E45).ext E55).ext E60).ext E63)) 7 rfl)) ?_
  refine jj (does_fieldAddr (ev rfl) fa37_5) ?_
  refine jj (does_load (u := (.slice p24 A_b.vals.length q25)) (ev rfl) Try.isAgg25 (Cells.at (Blk.cells ((((hB37.ext E45).ext E55).ext E60).ext E63)) 7 rfl)) ?_
  refine sd (does_call (args := #[(.slice p21 A_a.vals.length q22), (.slice p24 A_b.vals.length q25)]) cal25 (evs rfl) (c_laws_eqFloat32S (.slice p21 A_a.vals.length q22) A_a.vals (.slice p24 A_b.vals.length q25) A_b.vals _ (Sl.ext hs23 RF.mono X65) (Sl.ext hs26 RF.mono X65))) ?_; rintro _ w87 ⟨E86, rfl⟩
  have X88 := Ext.gr X65 E86
  refine fz ?_
  refine jj (does_not (ev rfl)) ?_
  refine wn K85 ?_
  refine wp_cond_split (t := !(sameL A_a.vals A_b.vals)) (ev rfl) (fun c89 => ?_) (fun c89 => ?_)
  · rw [Bool.not_eq_true'] at c89
    have c89' := c89
    refine wr fun _ K90 => ?_
    refine ja (Bo false) ?_
    refine wn K90 ?_
    refine wp_ret ?_
    dsimp only [Exit.then, Exit.inBlock]
    refine ret_val (v := (Bo false)) (res_T rfl (slot rfl)) X88 ?_
    try simp only [h2, h4, h6, h8, h12, h14, h16, h18, h54, h59] at c48 c66 c71 c76 c81 c89
    have x91 : (sameG A_a A_b) = false := by first | with_reducible rfl | (simp only [sameG, icmp, h2, h4, h6, h8, h12, h14, h16, h18, h54, h59, c48, c66, c71, c76, c81, c89]; done) | (simp [sameG, icmp, h2, h4, h6, h8, h12, h14, h16, h18, h54, h59, c48, c66, c71, c76, c81, c89]; done) | (revert c48 c66 c71 c76 c81 c89; simp +contextual [sameG, icmp, h2, h4, h6, h8, h12, h14, h16, h18, h54, h59]; done) | (rcases c48' with hh | hh <;> simp only [hh, sameG, icmp, h2, h4, h6, h8, h12, h14, h16, h18, h54, h59, c48, c66, c71, c76, c81, c89]; done) | (rcases c66' with hh | hh <;> simp only [hh, sameG, icmp, h2, h4, h6, h8, h12, h14, h16, h18, h54, h59, c48, c66, c71, c76, c81, c89]; done) | (rcases c71' with hh | hh <;> simp only [hh, sameG, icmp, h2, h4, h6, h8, h12, h14, h16, h18, h54, h59, c48, c66, c71, c76, c81, c89]; done) | (rcases c76' with hh | hh <;> simp only [hh, sameG, icmp, h2, h4, h6, h8, h12, h14, h16, h18, h54, h59, c48, c66, c71, c76, c81, c89]; done) | (rcases c81' with hh | hh <;> simp only [hh, sameG, icmp, h2, h4, h6, h8, h12, h14, h16, h18, h54, h59, c48, c66, c71, c76, c81, c89]; done) | (rcases c89' with hh | hh <;> simp only [hh, sameG, icmp, h2, h4, h6, h8, h12, h14, h16, h18, h54, h59, c48, c66, c71, c76, c81, c89]; done) | (rcases c89' with hh | hh <;> simp_all [sameG, icmp]; done) | (rcases c89' with hh | hh | hh <;> simp_all [sameG, icmp]; done) | (rcases c89' with hh | hh | hh | hh <;> simp_all [sameG, icmp]; done) | (simp_all [sameG, icmp]; done) | rfl
    exact (by first | with_reducible rfl | rw [x91] | rfl)
  rw [Bool.not_eq_false'] at c89
  have c89' := c89
  refine wp_skip (K84 _ _ ?_)
  refine wr fun _ K92 => ?_
  refine ja (Bo true) ?_
  refine wn K92 ?_
  refine wp_ret ?_
  refine ret_val (v := (Bo true)) (res_T rfl (slot rfl)) X88 ?_
  try simp only [h2, h4, h6, h8, h12, h14, h16, h18, h54, h59] at c48 c66 c71 c76 c81 c89
  have x93 : (sameG A_a A_b) = true := by first | with_reducible rfl | (simp only [sameG, icmp, h2, h4, h6, h8, h12, h14, h16, h18, h54, h59, c48, c66, c71, c76, c81, c89]; done) | (simp [sameG, icmp, h2, h4, h6, h8, h12, h14, h16, h18, h54, h59, c48, c66, c71, c76, c81, c89]; done) | (revert c48 c66 c71 c76 c81 c89; simp +contextual [sameG, icmp, h2, h4, h6, h8, h12, h14, h16, h18, h54, h59]; done) | (rcases c48' with hh | hh <;> simp only [hh, sameG, icmp, h2, h4, h6, h8, h12, h14, h16, h18, h54, h59, c48, c66, c71, c76, c81, c89]; done) | (rcases c66' with hh | hh <;> simp only [hh, sameG, icmp, h2, h4, h6, h8, h12, h14, h16, h18, h54, h59, c48, c66, c71, c76, c81, c89]; done) | (rcases c71' with hh | hh <;> simp only [hh, sameG, icmp, h2, h4, h6, h8, h12, h14, h16, h18, h54, h59, c48, c66, c71, c76, c81, c89]; done) | (rcases c76' with hh | hh <;> simp only [hh, sameG, icmp, h2, h4, h6, h8, h12, h14, h16, h18, h54, h59, c48, c66, c71, c76, c81, c89]; done) | (rcases c81' with hh | hh <;> simp only [hh, sameG, icmp, h2, h4, h6, h8, h12, h14, h16, h18, h54, h59, c48, c66, c71, c76, c81, c89]; done) | (rcases c89' with hh | hh <;> simp only [hh, sameG, icmp, h2, h4, h6, h8, h12, h14, h16, h18, h54, h59, c48, c66, c71, c76, c81, c89]; done) | (rcases c89' with hh | hh <;> simp_all [sameG, icmp]; done) | (rcases c89' with hh | hh | hh <;> simp_all [sameG, icmp]; done) | (rcases c89' with hh | hh | hh | hh <;> simp_all [sameG, icmp]; done) | (simp_all [sameG, icmp]; done) | rfl
  exact (by first | with_reducible rfl | rw [x93] | rfl)

theorem c_laws_markFloat32S_nil (k : Int) (w : World) : Gives Try.prog 26 #[.slice none 0 0, Iv k] w (fun v _ => v = Iv k) := by
  refine enter [(.slice none 0 0), (Iv k), Ud, Ud, Ud, Ud, Ud, Ud, Ud, Ud, Ud, Ud, Ud, Ud, Ud, Ud, Ud, Ud, Ud, Ud] Try.func26 rfl Try.ntmps26 rfl ?_
  refine wr fun _ K1 => ?_
  refine ja (Iv 0) ?_
  refine wn K1 ?_
  refine ws fun _ K2 => ?_
  refine wr fun _ K3 => ?_
  refine ja (Iv 0) ?_
  refine wn K3 ?_
  refine wp_block ?_
  refine loop_unroll 1 ?_
  refine un_step ?_
  refine ws fun _ K4 => ?_
  refine wr fun _ K5 => ?_
  refine jm (Iv 0) ?_
  refine jm (.slice none 0 0) ?_
  refine jj (does_len_slice Try.underlying25 (ev rfl)) ?_
  refine jj (does_icmp (p := 0) (q := 0) (.inr (.inr (.inl rfl))) (ev rfl) (ev rfl)) ?_
  refine wn K5 ?_
  refine wp_cond_false (ev rfl) ?_
  refine wp_exit ?_
  refine K2 _ _ ?_
  refine wr fun _ K6 => ?_
  refine jm (Iv k) ?_
  refine ja (Iv k) ?_
  refine wn K6 ?_
  refine wp_ret ?_
  refine ret_val (v := (Iv k)) (res_T rfl (slot rfl)) (Ext.refl w) ?_
  have x7 : (k : Int) = k := by first | with_reducible rfl | (simp only []; done) | (simp []; done) | rfl
  exact (by first | with_reducible rfl | rw [x7] | rfl)

theorem c_laws_markFloat32S_blk (g N n cap : Nat) (k : Int) (w : World) (hM : Mk true k w g N 0) (hn : n * 1 ≤ N) (h0 : 0 ≤ k) (h1 : k + (n : Int) * 1 ≤ 4611686018427387904) : GivesK [g] Try.prog 26 #[.slice (some ⟨g, 0, none⟩) n cap, Iv k] w (fun v w' => v = Iv (k + (n : Int) * 1) ∧ Mk true k w' g N (n * 1)) := by
  refine enterK [(.slice (some ⟨g, 0, none⟩) n cap), (Iv k), Ud, Ud, Ud, Ud, Ud, Ud, Ud, Ud, Ud, Ud, Ud, Ud, Ud, Ud, Ud, Ud, Ud, Ud] Try.func26 rfl Try.ntmps26 rfl ?_
  refine wr fun _ K1 => ?_
  refine ja (Iv 0) ?_
  refine wn K1 ?_
  refine ws fun _ K2 => ?_
  refine wr fun _ K3 => ?_
  refine ja (Iv 0) ?_
  refine wn K3 ?_
  refine wp_block ?_
  refine loop_ghost (σ := Nat × Int) (fun s a w' => ∃ u4 : Nat → Value, a = fr [(.slice (some ⟨g, 0, none⟩) n cap), (Iv s.2), Ud, Ud, (Iv 0), (Iv (s.1 : Int)), (u4 6), (u4 7), (u4 8), (u4 9), (u4 10), (u4 11), (u4 12), (u4 13), (u4 14), (u4 15), (u4 16), (u4 17), (u4 18), Ud] ∧ KpL [g] w w' ∧ Mk true k w' g N (s.1 * 1) ∧ (s.1 ≤ n ∧ s.2 = k + (s.1 : Int) * 1)) (fun s => n - s.1) (0, k) ?_ ?_
  · refine ⟨pk [], rfl, KpL.refl _ _, (Mk.cast hM (by simp)), ?_⟩
    exact ⟨Nat.zero_le _, by simp⟩
  · rintro s a w5 ⟨u4, rfl, E6, hF7, ⟨hk, hn2⟩⟩
    have X8 := KpL.more (KpL.refl [g] w) E6 (allS (.inl (by simp)) all0)
    refine ws fun _ K9 => ?_
    refine wr fun _ K10 => ?_
    refine jm (Iv (s.1 : Int)) ?_
    refine jm (.slice (some ⟨g, 0, none⟩) n cap) ?_
    refine jj (does_len_slice Try.underlying25 (ev rfl)) ?_
    refine jj (does_icmp (p := (s.1 : Int)) (q := (n : Int)) (.inr (.inr (.inl rfl))) (ev rfl) (ev rfl)) ?_
    refine wn K10 ?_
    refine wp_cond_split (t := icmp .lss (s.1 : Int) (n : Int)) (ev rfl) (fun c11 => ?_) (fun c11 => ?_)
    · have c11' := c11
      (try simp only [icmp, bs] at c11')
      refine wp_skip (K9 _ _ ?_)
      refine ws fun _ K12 => ?_
      refine wp_block ?_
      refine wr fun _ K13 => ?_
      refine jm (.slice (some ⟨g, 0, none⟩) n cap) ?_
      refine jm (Iv (s.1 : Int)) ?_
      refine jm (Iv s.2) ?_
      refine jj (does_conv_if (k := .f32) Try.underlying3 Try.underlying22 (ev rfl)) ?_
      refine jj (does_indexOwn (b := g) (n := n) (i := (s.1 : Int)) Try.underlying25 Try.sizeOf22 (ev rfl) (ev rfl) (by omega) (by omega)) ?_
      refine sn (does_mark (fl := true) (k := k) (N := N) (off := s.1 * 1) (j := s.1 * 1) (u := (Fl (FloatKind.f32.nearest s.2))) (ev rfl) (ev rfl) Try.sizeOf22 (mkc_f (by first | rfl | omega)) (by omega) (by omega) hF7) ?_; rintro _ w16 ⟨rfl, W14, hM15⟩
      refine wn K13 ?_
      refine wp_region_lit ?_
      refine jm (Iv s.2) ?_
      refine jj (does_iarith (p := s.2) (q := 1) (r := s.2 + 1) (ev rfl) (ev rfl) (.inl ⟨rfl, (in_i64 (by omega) (by omega)).symm⟩)) ?_
      refine ja (Iv (s.2 + 1)) ?_
      refine wn K12 ?_
      refine wp_region_lit ?_
      refine jm (Iv (s.1 : Int)) ?_
      refine jj (does_iarith (p := (s.1 : Int)) (q := 1) (r := (s.1 : Int) + 1) (ev rfl) (ev rfl) (.inl ⟨rfl, (in_i64 (by omega) (by omega)).symm⟩)) ?_
      refine ja (Iv ((s.1 : Int) + 1)) ?_
      refine wpList_nil ?_
      refine ⟨(s.1 + 1, s.2 + 1), ⟨pk [(6, Iv (s.1 : Int)), (7, (.slice (some ⟨g, 0, none⟩) n cap)), (8, Iv (n : Int)), (9, Bo (icmp .lss (s.1 : Int) (n : Int))), (10, Iv (s.1 : Int)), (11, Iv ((s.1 : Int) + 1)), (12, (.slice (some ⟨g, 0, none⟩) n cap)), (13, Iv (s.1 : Int)), (14, Iv s.2), (15, Fl (FloatKind.f32.nearest s.2)), (16, Pt g (s.1 * 1)), (17, Iv s.2), (18, Iv (s.2 + 1))], ?_, (KpL.more E6 (KpL.of_wr W14) (allS (.inl (by simp)) all0)), (Mk.cast hM15 (by (try dsimp only); omega)), ?_⟩, ?_⟩
      · first | rfl | (simp only [Int.natCast_add, Int.natCast_one]; rfl)
      · (try dsimp only); exact ⟨by omega, by omega⟩
      · (try dsimp only); omega
    have c11' := c11
    (try simp only [icmp, bs] at c11')
    refine wp_exit ?_
    refine K2 _ _ ?_
    refine wr fun _ K18 => ?_
    refine jm (Iv s.2) ?_
    refine ja (Iv s.2) ?_
    refine wn K18 ?_
    refine wp_ret ?_
    refine ret_valK (v := (Iv s.2)) (res_T rfl (slot rfl)) X8 ?_
    have hj : s.1 = n := by omega
    exact ⟨by first | rfl | (show Value.int _ _ = Value.int _ _; congr 1; omega), Mk.cast hF7 (by rw [hj])⟩

theorem c_laws_markFloat32S (a : Value) (n : Nat) (L : List Nat) (B : Nat) (k : Int) (w : World) (ha : WL 1 B w L a n) (h0 : 0 ≤ k) (h1 : k + (n : Int) * 1 ≤ 4611686018427387904) : GivesK L Try.prog 26 #[a, Iv k] w (fun v w' => v = Iv (k + (n : Int) * 1) ∧ Hang B w' (fun u => Sl RF 1 u a (mkL fF 1 k n))) := by
  obtain ⟨hL, ⟨rfl, rfl, rfl⟩ | ⟨g, cap, cs, rfl, rfl, hB, hn, hc⟩⟩ := ha
  · exact (Gives.toK (c_laws_markFloat32S_nil k w)).mono fun v w' hv => ⟨by rw [hv]; simp, fun u _ => Sl_mk0 u⟩
  · exact (c_laws_markFloat32S_blk g cs.length n cap k w (Mk.zero hB rfl) hn h0 h1).mono fun v w' ⟨hv, hM⟩ => ⟨hv, Mk.hang hM (hL g (by simp)).1 hc (by decide) (by omega) rF⟩

theorem c_laws_markFloat32S_mk (a : Value) (n : Nat) (L : List Nat) (B : Nat) (k : Int) (w : World) (ha : WL 1 B w L a n) (h0 : 0 ≤ k) (h1 : k + (n : Int) * 1 ≤ 4611686018427387904) : GivesK L Try.prog 26 #[a, Iv k] w (fun v w' => v = Iv (k + (n : Int) * 1) ∧ MkS true 1 k w' L a n) := by
  obtain ⟨hL, ⟨rfl, rfl, rfl⟩ | ⟨g, cap, cs, rfl, rfl, hB, hn, hc⟩⟩ := ha
  · exact (Gives.toK (c_laws_markFloat32S_nil k w)).mono fun v w' hv => ⟨by rw [hv]; simp, .inl ⟨rfl, rfl, rfl⟩⟩
  · exact (c_laws_markFloat32S_blk g cs.length n cap k w (Mk.zero hB rfl) hn h0 h1).mono fun v w' ⟨hv, hM⟩ => ⟨hv, .inr ⟨g, cap, cs.length, rfl, rfl, hM, hc⟩⟩

end Go.Proofs.Ytjopopmipdakkaa
