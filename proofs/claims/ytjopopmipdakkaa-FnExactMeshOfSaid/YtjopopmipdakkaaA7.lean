/- contracts of functions, each walked once -/
import Derived.Test.YtjopopmipdakkaaA6
namespace Go.Proofs.Ytjopopmipdakkaa
open Go Go.RowKit
set_option maxRecDepth 100000
set_option maxHeartbeats 3200000
set_option linter.unusedVariables false
set_option linter.unusedSimpArgs false

/- slices.IndexFunc[[]float32,float32] -/
theorem c_slices_IndexFunc_float32_float32 (xs : Value) (L_xs : List Nat) (f : Value) (pr_f : Nat → Bool) (w : World) (hv_xs : Sl RF 1 w xs L_xs) (hv_f : TellsF Try.prog f w pr_f) : Gives Try.prog 77 #[xs, f] w (fun v w' => v = (Iv (findI pr_f L_xs))) := by
  have hlen_xs := Sl.len hv_xs; obtain ⟨p_xs, q_xs, rfl⟩ := Sl.shape hv_xs
  obtain ⟨f_f, s_f, c_f, rfl, hcal_f, hg_f⟩ := hv_f
  refine enter [(.slice p_xs L_xs.length q_xs), (.func (.func f_f) s_f c_f), Ud, Ud, Ud, Ud, Ud, Ud, Ud, Ud, Ud, Ud, Ud, Ud, Ud, Ud, Ud, Ud, Ud] Try.func77 rfl Try.ntmps77 rfl ?_
  refine wr fun _ K1 => ?_
  refine ja (Iv 0) ?_
  refine wn K1 ?_
  refine ws fun _ K2 => ?_
  refine wr fun _ K3 => ?_
  refine jm (.slice p_xs L_xs.length q_xs) ?_
  refine jj (does_len_slice Try.underlying25 (ev rfl)) ?_
  refine jm (Iv 0) ?_
  refine wn K3 ?_
  refine wp_block ?_
  refine loop_ghost (σ := Nat) (fun k a w' => ∃ u4 : Nat → Value, a = fr [(.slice p_xs L_xs.length q_xs), (.func (.func f_f) s_f c_f), Ud, Ud, (u4 4), (u4 5), (.slice p_xs L_xs.length q_xs), (Iv (L_xs.length : Int)), (Iv (k : Int)), (u4 9), (u4 10), (u4 11), (u4 12), (u4 13), (u4 14), (u4 15), (u4 16), (u4 17), (u4 18)] ∧ Ext w w' ∧ (k ≤ L_xs.length ∧ NoneTo pr_f L_xs k)) (fun k => L_xs.length - k) 0 ?_ ?_
  · refine ⟨pk [(4, Iv 0)], rfl, Ext.refl _, ?_⟩
    exact ⟨Nat.zero_le _, NoneTo.zero⟩
  · rintro k a w5 ⟨u4, rfl, E6, ⟨hk, hno⟩⟩
    have X8 := Ext.gr (Ext.refl w) E6
    refine wr fun _ K9 => ?_
    refine jj (does_icmp (p := (k : Int)) (q := (L_xs.length : Int)) (.inr (.inr (.inl rfl))) (ev rfl) (ev rfl)) ?_
    refine wn K9 ?_
    refine ws fun _ K10 => ?_
    refine wp_cond_split (t := icmp .lss (k : Int) (L_xs.length : Int)) (ev rfl) (fun c11 => ?_) (fun c11 => ?_)
    · have c11' := c11
      (try simp only [icmp, bs] at c11')
      refine wp_skip (K10 _ _ ?_)
      refine ws fun _ K12 => ?_
      refine wp_block ?_
      refine wr fun _ K13 => ?_
      refine jm (Iv (k : Int)) ?_
      refine ja (Iv (k : Int)) ?_
      refine wn K13 ?_
      refine wr fun _ K14 => ?_
      refine jm (.func (.func f_f) s_f c_f) ?_
      refine jm (.slice p_xs L_xs.length q_xs) ?_
      refine jm (Iv (k : Int)) ?_
      obtain ⟨el1, hel1⟩ : ∃ e, L_xs[k]? = some e := ⟨_, List.getElem?_eq_getElem (by omega)⟩
      refine sd (does_indexSl (R := RF) (i := (k : Int)) (xs := L_xs) (e := el1) Try.underlying25 Try.sizeOf22 (ev rfl) (ev rfl) (Sl.ext hv_xs RF.mono X8) (by omega) hel1) ?_; rintro _ w5 ⟨b15, o16, _, rfl, hc18, ⟨r19, rfl, h20⟩, rfl⟩
      refine fz ?_
      refine jj (does_load (u := (Fl r19)) (ev rfl) Try.isAgg22 (Cells.at hc18 0 rfl)) ?_
      refine sd (does_callf (args := #[(Fl r19)]) (ev rfl) hcal_f (evs rfl) (hg_f r19 _ X8)) ?_; rintro _ w22 ⟨E21, rfl⟩
      have X23 := Ext.gr X8 E21
      refine fz ?_
      refine wn K14 ?_
      refine wp_cond_split (t := pr_f (cf .f32 r19)) (ev rfl) (fun c24 => ?_) (fun c24 => ?_)
      · have c24' := c24
        refine wr fun _ K25 => ?_
        refine jm (Iv (k : Int)) ?_
        refine ja (Iv (k : Int)) ?_
        refine wn K25 ?_
        refine wp_ret ?_
        dsimp only [Exit.then, Exit.inBlock]
        refine ret_val (v := (Iv (k : Int))) (res_T rfl (slot rfl)) X23 ?_
        try simp only [hel1, h20] at c11 c24
        have x26 : (findI pr_f L_xs : Int) = (k : Int) := by first | exact findI_at hno (by assumption) (by simp_all) | exact findI_none hno (by omega)
        exact (by first | with_reducible rfl | rw [x26] | rfl)
      have c24' := c24
      refine wp_skip (K12 _ _ ?_)
      refine wp_region_lit ?_
      refine jj (does_iarith (p := (k : Int)) (q := 1) (r := (k : Int) + 1) (ev rfl) (ev rfl) (.inl ⟨rfl, (in_i64 (by omega) (by omega)).symm⟩)) ?_
      refine jm (Iv ((k : Int) + 1)) ?_
      refine wpList_nil ?_
      refine ⟨k + 1, ⟨pk [(4, u4 4), (5, Iv (k : Int)), (9, Bo (icmp .lss (k : Int) (L_xs.length : Int))), (10, Iv (k : Int)), (11, .func (.func f_f) s_f c_f), (12, (.slice p_xs L_xs.length q_xs)), (13, Iv (k : Int)), (14, Pt b15 o16), (15, Fl r19), (16, Bo (pr_f (cf .f32 r19))), (17, u4 17), (18, Iv ((k : Int) + 1))], ?_, (Ext.gr E6 E21), ?_⟩, ?_⟩
      · first | rfl | (simp only [Int.natCast_add, Int.natCast_one]; rfl)
      · exact ⟨by omega, NoneTo.step hno (by assumption) (by simp_all)⟩
      · omega
    have c11' := c11
    (try simp only [icmp, bs] at c11')
    refine wp_exit ?_
    refine K2 _ _ ?_
    refine wr fun _ K27 => ?_
    refine ja (Iv (-1)) ?_
    refine wn K27 ?_
    refine wp_ret ?_
    refine ret_val (v := (Iv (-1))) (res_T rfl (slot rfl)) X8 ?_
    have x28 : (findI pr_f L_xs : Int) = (-1) := by first | exact findI_at hno (by assumption) (by simp_all) | exact findI_none hno (by omega)
    exact (by first | with_reducible rfl | rw [x28] | rfl)

/- slices.ContainsFunc[[]float32,float32] -/
theorem c_slices_ContainsFunc_float32_float32 (xs : Value) (L_xs : List Nat) (f : Value) (pr_f : Nat → Bool) (w : World) (hv_xs : Sl RF 1 w xs L_xs) (hv_f : TellsF Try.prog f w pr_f) : Gives Try.prog 68 #[xs, f] w (fun v w' => v = (Bo (L_xs.any pr_f))) := by
  have hlen_xs := Sl.len hv_xs; obtain ⟨p_xs, q_xs, rfl⟩ := Sl.shape hv_xs
  obtain ⟨f_f, s_f, c_f, rfl, hcal_f, hg_f⟩ := hv_f
  refine enter [(.slice p_xs L_xs.length q_xs), (.func (.func f_f) s_f c_f), Ud, Ud, Ud, Ud, Ud, Ud, Ud] Try.func68 rfl Try.ntmps68 rfl ?_
  refine wr fun _ K1 => ?_
  refine ja (Bo false) ?_
  refine wn K1 ?_
  refine wr fun _ K2 => ?_
  refine jm (.slice p_xs L_xs.length q_xs) ?_
  refine jm (.func (.func f_f) s_f c_f) ?_
  refine sd (does_call (args := #[(.slice p_xs L_xs.length q_xs), (.func (.func f_f) s_f c_f)]) cal77 (evs rfl) (c_slices_IndexFunc_float32_float32 (.slice p_xs L_xs.length q_xs) L_xs (.func (.func f_f) s_f c_f) pr_f _ hv_xs ⟨_, _, _, rfl, hcal_f, fun r u hu' => hg_f r u (Ext.gr (Ext.refl w) hu')⟩)) ?_; rintro _ w4 ⟨E3, rfl⟩
  have X5 := Ext.gr (Ext.refl w) E3
  refine fz ?_
  refine jj (does_icmp (p := findI pr_f L_xs) (q := 0) (.inr (.inr (.inr (.inr (.inr rfl))))) (ev rfl) (ev rfl)) ?_
  refine ja (Bo (icmp .geq (findI pr_f L_xs) 0)) ?_
  refine wn K2 ?_
  refine wp_ret ?_
  refine ret_val (v := (Bo (icmp .geq (findI pr_f L_xs) 0))) (res_T rfl (slot rfl)) X5 ?_
  have x6 : (L_xs.any pr_f) = (icmp .geq (findI pr_f L_xs) 0) := by first | with_reducible rfl | (simp only [findI_any]; done) | (simp [findI_any]; done) | rfl
  exact (by first | with_reducible rfl | rw [x6] | rfl)

/- impl.IsFinite -/
theorem c_impl_IsFinite (x : Nat) (w : World) : Gives Try.prog 55 #[(Fl x)] w (fun v w' => v = (Bo (finF (cf .f32 x)))) := by
  refine enter [(Fl x), Ud, Ud, Ud, Ud, Ud, Ud] Try.func55 rfl Try.ntmps55 rfl ?_
  refine wr fun _ K1 => ?_
  refine ja (Bo false) ?_
  refine wn K1 ?_
  refine wr fun _ K2 => ?_
  refine jm (Fl x) ?_
  refine jm (Fl x) ?_
  refine sd (does_float (.inr (.inl rfl)) (ev rfl) (ev rfl)) ?_; rintro _ w6 ⟨r3, rfl, h4, E5⟩
  have X7 := Ext.gr (Ext.refl w) E5
  refine fz ?_
  refine jj (does_fcmp (.inl rfl) (ev rfl) (ev rfl)) ?_
  refine ja (Bo (fcmp .eql (ford .f32 (cf .f32 r3) (cf .f32 0)))) ?_
  refine wn K2 ?_
  refine wp_ret ?_
  refine ret_val (v := (Bo (fcmp .eql (ford .f32 (cf .f32 r3) (cf .f32 0))))) (res_T rfl (slot rfl)) X7 ?_
  have x8 : (finF (cf .f32 x)) = (fcmp .eql (ford .f32 (cf .f32 r3) (cf .f32 0))) := by first | with_reducible rfl | (simp only [finF, h4]; done) | (simp [finF, h4]; done) | rfl
  exact (by first | with_reducible rfl | rw [x8] | rfl)

/- impl.finite$1 -/
theorem c_impl_finite_1 (x : Nat) (w : World) : Gives Try.prog 69 #[(Fl x)] w (fun v w' => v = (Bo (!finF (cf .f32 x)))) := by
  refine enter [(Fl x), Ud, Ud, Ud, Ud, Ud] Try.func69 rfl Try.ntmps69 rfl ?_
  refine wr fun _ K1 => ?_
  refine ja (Bo false) ?_
  refine wn K1 ?_
  refine wr fun _ K2 => ?_
  refine jm (Fl x) ?_
  refine sd (does_call (args := #[(Fl x)]) cal55 (evs rfl) (c_impl_IsFinite x _)) ?_; rintro _ w4 ⟨E3, rfl⟩
  have X5 := Ext.gr (Ext.refl w) E3
  refine fz ?_
  refine jj (does_not (ev rfl)) ?_
  refine ja (Bo (!(finF (cf .f32 x)))) ?_
  refine wn K2 ?_
  refine wp_ret ?_
  refine ret_val (v := (Bo (!(finF (cf .f32 x))))) (res_T rfl (slot rfl)) X5 ?_
  have x6 : (!finF (cf .f32 x)) = (!(finF (cf .f32 x))) := by first | with_reducible rfl | (simp only []; done) | (simp []; done) | rfl
  exact (by first | with_reducible rfl | rw [x6] | rfl)

/- impl.finite -/
theorem c_impl_finite (xs : Value) (L_xs : List Nat) (w : World) (hv_xs : Sl RF 1 w xs L_xs) : Gives Try.prog 54 #[xs] w (fun v w' => v = (Bo (!L_xs.any (fun x => !finF x)))) := by
  have hlen_xs := Sl.len hv_xs; obtain ⟨p_xs, q_xs, rfl⟩ := Sl.shape hv_xs
  refine enter [(.slice p_xs L_xs.length q_xs), Ud, Ud, Ud, Ud, Ud] Try.func54 rfl Try.ntmps54 rfl ?_
  refine wr fun _ K1 => ?_
  refine ja (Bo false) ?_
  refine wn K1 ?_
  refine wr fun _ K2 => ?_
  refine jm (.slice p_xs L_xs.length q_xs) ?_
  refine sd (does_call (args := #[(.slice p_xs L_xs.length q_xs), (.func (.func 69) #[] #[])]) cal68 (evs rfl) (c_slices_ContainsFunc_float32_float32 (.slice p_xs L_xs.length q_xs) L_xs (.func (.func 69) #[] #[]) (fun x => !finF x) _ hv_xs ⟨69, #[], #[], rfl, cal69, fun r u hu' => by simpa using (c_impl_finite_1 r u)⟩)) ?_; rintro _ w4 ⟨E3, rfl⟩
  have X5 := Ext.gr (Ext.refl w) E3
  refine fz ?_
  refine jj (does_not (ev rfl)) ?_
  refine ja (Bo (!(L_xs.any (fun x => !finF x)))) ?_
  refine wn K2 ?_
  refine wp_ret ?_
  refine ret_val (v := (Bo (!(L_xs.any (fun x => !finF x))))) (res_T rfl (slot rfl)) X5 ?_
  have x6 : (!L_xs.any (fun x => !finF x)) = (!(L_xs.any (fun x => !finF x))) := by first | with_reducible rfl | (simp only []; done) | (simp []; done) | rfl
  exact (by first | with_reducible rfl | rw [x6] | rfl)

/- impl.finiteVector -/
theorem c_impl_finiteVector (v : List Value) (A_v : V3) (w : World) (hv_v : RV3 w A_v v) : Gives Try.prog 35 #[(.agg v.toArray)] w (fun v w' => v = (Bo (finV A_v))) := by
  obtain ⟨r1, r3, r5, rfl, h2, h4, h6⟩ := hv_v
  refine enter [(.agg #[(Fl r1), (Fl r3), (Fl r5)]), Ud, Ud, Ud, Ud, Ud, Ud, Ud, Ud, Ud, Ud] Try.func35 rfl Try.ntmps35 rfl ?_
  refine wr fun _ K7 => ?_
  refine sd (does_box (u := (.agg #[(Fl r1), (Fl r3), (Fl r5)])) (ev rfl)) ?_; rintro _ w12 ⟨b8, rfl, hb9, hB10, E11⟩
  change Blk _ _ [(Fl r1), (Fl r3), (Fl r5)] at hB10
  have X14 := Ext.gr (Ext.refl w) E11
  refine fz ?_
  refine ja (Bo false) ?_
  refine wn K7 ?_
  refine wr fun _ K15 => ?_
  refine jj (does_fieldAddr (ev rfl) fa35_0) ?_
  refine jj (does_load (u := (Fl r1)) (ev rfl) Try.isAgg22 (Cells.at (Blk.cells hB10) 0 rfl)) ?_
  refine jj (does_fieldAddr (ev rfl) fa35_1) ?_
  refine jj (does_load (u := (Fl r3)) (ev rfl) Try.isAgg22 (Cells.at (Blk.cells hB10) 1 rfl)) ?_
  refine jj (does_fieldAddr (ev rfl) fa35_2) ?_
  refine jj (does_load (u := (Fl r5)) (ev rfl) Try.isAgg22 (Cells.at (Blk.cells hB10) 2 rfl)) ?_
  refine sd (does_buildSlice (e := 22) (parts' := [(0, (Fl r1)), (1, (Fl r3)), (2, (Fl r5))]) (cells := [(Fl r1), (Fl r3), (Fl r5)]) (evp rfl) (fun _ => by kernel_rfl)) ?_; rintro _ w20 ⟨b16, rfl, hb17, hB18, E19⟩
  have X23 := Ext.gr X14 E19
  refine fz ?_
  refine sd (does_call (args := #[(.slice (some ⟨b16, 0, none⟩) 3 3)]) cal54 (evs rfl) (c_impl_finite (.slice (some ⟨b16, 0, none⟩) 3 3) [(cf .f32 r1), (cf .f32 r3), (cf .f32 r5)] _ (Sl_lit3 hB18 ⟨_, rfl, rfl⟩ ⟨_, rfl, rfl⟩ ⟨_, rfl, rfl⟩))) ?_; rintro _ w25 ⟨E24, rfl⟩
  have X26 := Ext.gr X23 E24
  refine fz ?_
  refine ja (Bo (!([(cf .f32 r1), (cf .f32 r3), (cf .f32 r5)]).any (fun x => !finF x))) ?_
  refine wn K15 ?_
  refine wp_ret ?_
  refine ret_val (v := (Bo (!([(cf .f32 r1), (cf .f32 r3), (cf .f32 r5)]).any (fun x => !finF x)))) (res_T rfl (slot rfl)) X26 ?_
  have x27 : (finV A_v) = (!([(cf .f32 r1), (cf .f32 r3), (cf .f32 r5)]).any (fun x => !finF x)) := by first | with_reducible rfl | (simp only [finV, any3_finF, h2, h4, h6]; done) | (simp [finV, any3_finF, h2, h4, h6]; done) | rfl
  exact (by first | with_reducible rfl | rw [x27] | rfl)

/- impl.stepOk -/
theorem c_impl_stepOk (x : Nat) (w : World) : Gives Try.prog 36 #[(Fl x)] w (fun v w' => v = (Bo (finF (cf .f32 x) && posF (cf .f32 x)))) := by
  refine enter [(Fl x), Ud, Ud, Ud, Ud, Ud, Ud, Ud, Ud] Try.func36 rfl Try.ntmps36 rfl ?_
  refine wr fun _ K1 => ?_
  refine ja (Bo false) ?_
  refine wn K1 ?_
  refine ws fun _ K2 => ?_
  obtain ⟨β1, hβ1⟩ : ∃ b : Bool, b = (fcmp .gtr (ford .f32 (cf .f32 x) (cf .f32 0))) := ⟨_, rfl⟩
  refine region_text (
    [Fact.pure [] (fun v => v = (Fl x)),
    Fact.pure [3] (fun v => v = (Bo (finF (cf .f32 x)))),
    Fact.pure [4] (fun v => v = (Bo (finF (cf .f32 x)))),
    Fact.pure [5] (fun v => (finF (cf .f32 x)) = true → v = (Fl x)),
    Fact.pure [6, 5] (fun v => (finF (cf .f32 x)) = true → v = (Bo β1)),
    Fact.pure [5, 7] (fun v => v = (Bo ((finF (cf .f32 x)) && β1)))]) (by simp [Fact.pure, Fact.mem]) ?_
  refine R_p (fun u hu _ => does_move (u := (Fl x)) (ev rfl)) fun v3 => ?_
  refine R_d (fun u hu hF => ?_) (fun v4 => ?_)
  · have h3_ : v3 = (Fl x) := hF.1
    clear hF
    refine doesG_un rfl ?_
    obtain rfl := h3_
    refine (does_call (args := #[(Fl x)]) cal55 (evs rfl) (c_impl_IsFinite x _)).mono ?_; rintro v u' ⟨hx, hv⟩
    exact ⟨hv, hx⟩
  refine R_p (fun u hu hF => ?_) fun v5 => ?_
  · have h4_ : v4 = (Bo (finF (cf .f32 x))) := hF.1
    clear hF; subst h4_
    exact does_move (u := (Bo (finF (cf .f32 x)))) (ev rfl)
  refine R_d (fun u hu hF => ?_) (fun v6 => ?_)
  · have h5_ : v5 = (Bo (finF (cf .f32 x))) := hF.1
    clear hF
    obtain rfl := h5_
    refine doesG_g (b := (finF (cf .f32 x))) rfl (yld rfl rfl) (fun hg1 => ?_) (fun hc => ⟨fun hg1 => absurd hg1 hc, Ext.refl _⟩)
    refine (does_move (u := (Fl x)) (ev rfl)).mono ?_; rintro _ _ ⟨rfl, rfl⟩
    exact ⟨fun _ => rfl, Ext.refl _⟩
  refine R_d (fun u hu hF => ?_) (fun v7 => ?_)
  · have h6_ : (finF (cf .f32 x)) = true → v6 = (Fl x) := hF.1
    have h5_ : v5 = (Bo (finF (cf .f32 x))) := hF.2.1
    clear hF
    obtain rfl := h5_
    refine doesG_g (b := (finF (cf .f32 x))) rfl (yld rfl rfl) (fun hg1 => ?_) (fun hc => ⟨fun hg1 => absurd hg1 hc, Ext.refl _⟩)
    obtain rfl := h6_ hg1
    refine (does_fcmp (.inr (.inr (.inr (.inr (.inl rfl))))) (ev rfl) (ev rfl)).mono ?_; rintro _ _ ⟨rfl, rfl⟩
    exact ⟨fun _ => (by first | rfl | (show _ = _; simp only [hβ1]; done) | (show _ = _; simp only [hβ1]; rfl)), Ext.refl _⟩
  refine R_d (fun u hu hF => ?_) (fun v8 => ?_)
  · have h5_ : v5 = (Bo (finF (cf .f32 x))) := hF.1
    have h7_ : (finF (cf .f32 x)) = true → v7 = (Bo β1) := hF.2.1
    clear hF
    refine doesG_un rfl ?_
    skip
    obtain rfl := h5_
    refine (does_pick (b := (finF (cf .f32 x))) (u := v7) (v := (Bo false)) (ev rfl) (ev rfl) (ev rfl)).mono ?_; rintro _ _ ⟨rfl, rfl⟩; refine ⟨?_, Ext.refl _⟩; skip
    cases hbb : (finF (cf .f32 x))
    all_goals first | (show _ = _; simp only [↓reduceIte, Bool.true_and, Bool.false_and, Bool.true_or, Bool.false_or, Bool.false_eq_true]; done) | (have e_ := h7_ hbb; subst e_; show _ = _; simp only [↓reduceIte, Bool.true_and, Bool.false_and, Bool.true_or, Bool.false_or, Bool.false_eq_true]; done) | rfl | (have e_ := h7_ hbb; subst e_; rfl) | (simp [hbb] at h7_ ⊢; first | done | rfl | (subst h7_; rfl) | simp_all) | (simp [hbb] at h7_ ⊢; done)
  refine RW_fin ?_; intro w9 E10 hP11
  obtain ⟨⟨⟨⟨⟨⟨-, -⟩, -⟩, -⟩, -⟩, -⟩, q12⟩ := hP11
  have X13 := Ext.gr (Ext.refl w) E10
  have q12 : v8 = (Bo ((finF (cf .f32 x)) && β1)) := q12
  obtain rfl := q12
  refine fz ?_
  refine ja (Bo ((finF (cf .f32 x)) && β1)) ?_
  refine wn K2 ?_
  refine wp_ret ?_
  refine ret_val (v := (Bo ((finF (cf .f32 x)) && β1))) (res_T rfl (slot rfl)) X13 ?_
  have x14 : (finF (cf .f32 x) && posF (cf .f32 x)) = ((finF (cf .f32 x)) && β1) := by first | with_reducible rfl | (simp only [posF, hβ1]; done) | (simp [posF, hβ1]; done) | rfl
  exact (by first | with_reducible rfl | rw [x14] | rfl)

/- (*impl.Grid).counts -/
theorem c_impl_Grid_counts (g_b : Nat) (g_o : Nat) (g : List Value) (A_g : GridT) (w : World) (hc_g : Cells w g_b g_o g) (hv_g : RGridT w A_g g) : Gives Try.prog 37 #[(Pt g_b g_o)] w (fun v w' => v = (.agg #[(Iv A_g.x), (Iv A_g.y), (Iv A_g.z)])) := by
  obtain ⟨r1, r3, r5, r7, y9, rfl, h2, h4, h6, h8, h10⟩ := hv_g
  have hs13 := h10; have hs13l := Sl.len h10; obtain ⟨p11, q12, rfl⟩ := Sl.shape h10
  refine enter [(Pt g_b g_o), Ud, Ud, Ud, Ud, Ud, Ud, Ud, Ud, Ud, Ud, Ud, Ud, Ud, Ud, Ud] Try.func37 rfl Try.ntmps37 rfl ?_
  refine wr fun _ K14 => ?_
  refine sd (does_alloc z69) ?_; rintro _ w19 ⟨b15, rfl, hb16, hB17, E18⟩
  have g21 : w.heap.size ≤ b15 := Nat.le_trans (Below.size (Ext.refl w)) hb16
  change Blk _ _ [(Iv 0), (Iv 0), (Iv 0)] at hB17
  have X22 := Ext.gr (Ext.refl w) E18
  refine fz ?_
  refine wn K14 ?_
  refine ws fun _ K23 => ?_
  refine region_draw (
    [Fact.pure [] (fun v => v = (Pt g_b g_o)),
    Fact.pure [3] (fun v => v = (Pt g_b g_o)),
    Fact.pure [4] (fun v => v = (Pt g_b (g_o + 4))),
    Fact.pure [5] (fun v => v = (Iv A_g.x)),
    Fact.pure [] (fun v => v = (Pt g_b g_o)),
    Fact.pure [7] (fun v => v = (Pt g_b g_o)),
    Fact.pure [8] (fun v => v = (Pt g_b (g_o + 5))),
    Fact.pure [9] (fun v => v = (Iv A_g.y)),
    Fact.pure [] (fun v => v = (Pt g_b g_o)),
    Fact.pure [11] (fun v => v = (Pt g_b g_o)),
    Fact.pure [12] (fun v => v = (Pt g_b (g_o + 6))),
    Fact.pure [13] (fun v => v = (Iv A_g.z)),
    Fact.pure [6, 10, 14] (fun v => v = (.agg #[(Iv A_g.x), (Iv A_g.y), (Iv A_g.z)]))]) mixed (by kernel_rfl) (by intro _ _ d _ _ h; cases d <;> exact h) ?_
  obtain ⟨w24, hw26⟩ : ∃ w', w' = World.drew w19 := ⟨_, rfl⟩; rw [← hw26]; have E25 : Ext w19 w24 := by rw [hw26]; exact Ext.draw _
  clear hw26
  have X27 := Ext.gr X22 E25
  refine R_p (fun u hu _ => does_move (u := (Pt g_b g_o)) (ev rfl)) fun v28 => ?_
  refine R_p (fun u hu hF => ?_) fun v29 => ?_
  · have h3_ : v28 = (Pt g_b g_o) := hF.1
    clear hF; subst h3_
    exact does_nilCheck (ev rfl)
  refine R_p (fun u hu hF => ?_) fun v30 => ?_
  · have h4_ : v29 = (Pt g_b g_o) := hF.1
    clear hF; subst h4_
    exact does_fieldAddr (ev rfl) fa37_2
  refine R_p (fun u hu hF => ?_) fun v31 => ?_
  · have h5_ : v30 = (Pt g_b (g_o + 4)) := hF.1
    clear hF; subst h5_
    exact does_load (u := (Iv A_g.x)) (ev rfl) Try.isAgg2 (Cells.at ((hc_g.ext (Ext.gr X22 E25)).ext hu) 4 rfl)
  refine R_p (fun u hu _ => does_move (u := (Pt g_b g_o)) (ev rfl)) fun v32 => ?_
  refine R_p (fun u hu hF => ?_) fun v33 => ?_
  · have h7_ : v32 = (Pt g_b g_o) := hF.1
    clear hF; subst h7_
    exact does_nilCheck (ev rfl)
  refine R_p (fun u hu hF => ?_) fun v34 => ?_
  · have h8_ : v33 = (Pt g_b g_o) := hF.1
    clear hF; subst h8_
    exact does_fieldAddr (ev rfl) fa37_3
  refine R_p (fun u hu hF => ?_) fun v35 => ?_
  · have h9_ : v34 = (Pt g_b (g_o + 5)) := hF.1
    clear hF; subst h9_
    exact does_load (u := (Iv A_g.y)) (ev rfl) Try.isAgg2 (Cells.at ((hc_g.ext (Ext.gr X22 E25)).ext hu) 5 rfl)
  refine R_p (fun u hu _ => does_move (u := (Pt g_b g_o)) (ev rfl)) fun v36 => ?_
  refine R_p (fun u hu hF => ?_) fun v37 => ?_
  · have h11_ : v36 = (Pt g_b g_o) := hF.1
    clear hF; subst h11_
    exact does_nilCheck (ev rfl)
  refine R_p (fun u hu hF => ?_) fun v38 => ?_
  · have h12_ : v37 = (Pt g_b g_o) := hF.1
    clear hF; subst h12_
    exact does_fieldAddr (ev rfl) fa37_4
  refine R_p (fun u hu hF => ?_) fun v39 => ?_
  · have h13_ : v38 = (Pt g_b (g_o + 6)) := hF.1
    clear hF; subst h13_
    exact does_load (u := (Iv A_g.z)) (ev rfl) Try.isAgg2 (Cells.at ((hc_g.ext (Ext.gr X22 E25)).ext hu) 6 rfl)
  refine R_p (fun u hu hF => ?_) fun v40 => ?_
  · have h6_ : v31 = (Iv A_g.x) := hF.1
    have h10_ : v35 = (Iv A_g.y) := hF.2.1
    have h14_ : v39 = (Iv A_g.z) := hF.2.2.1
    clear hF; subst h6_ h10_ h14_
    exact does_build (parts' := [(0, (Iv A_g.x)), (1, (Iv A_g.y)), (2, (Iv A_g.z))]) (cells := #[(Iv A_g.x), (Iv A_g.y), (Iv A_g.z)]) (evp rfl) (by kernel_rfl)
  refine RW_fin ?_; intro w41 E42 hP43
  obtain ⟨⟨⟨⟨⟨⟨⟨⟨⟨⟨⟨⟨⟨-, -⟩, -⟩, -⟩, -⟩, -⟩, -⟩, -⟩, -⟩, -⟩, -⟩, -⟩, -⟩, q44⟩ := hP43
  have X45 := Ext.gr X27 E42
  have q44 : v40 = (.agg #[(Iv A_g.x), (Iv A_g.y), (Iv A_g.z)]) := q44
  obtain rfl := q44
  refine fz ?_
  refine sn (does_store (n := 3) (cs := [(Iv 0), (Iv 0), (Iv 0)]) (u := (.agg #[(Iv A_g.x), (Iv A_g.y), (Iv A_g.z)])) (ev rfl) (ev rfl) Try.sizeOf69 rfl ((hB17.ext E25).ext E42) (Nat.le_of_ble_eq_true rfl) rfl) ?_; rintro _ w48 ⟨rfl, W46, hB47⟩
  change Blk _ _ [(Iv A_g.x), (Iv A_g.y), (Iv A_g.z)] at hB47
  have X49 := Below.wr X45 W46 g21
  refine wn K23 ?_
  refine wp_ret ?_
  refine ret_val (v := (.agg #[(Iv A_g.x), (Iv A_g.y), (Iv A_g.z)])) (res_C rfl (slot rfl) (run_loadAgg (cs := [(Iv A_g.x), (Iv A_g.y), (Iv A_g.z)]) Try.isAgg69 Try.sizeOf69 (Blk.cells hB47) rfl)) X49 ?_
  have x50 : (A_g.x : Int) = A_g.x := by first | with_reducible rfl | (simp only [h2, h4, h6, h8]; done) | (simp [h2, h4, h6, h8]; done) | rfl
  have x51 : (A_g.y : Int) = A_g.y := by first | with_reducible rfl | (simp only [h2, h4, h6, h8]; done) | (simp [h2, h4, h6, h8]; done) | rfl
  have x52 : (A_g.z : Int) = A_g.z := by first | with_reducible rfl | (simp only [h2, h4, h6, h8]; done) | (simp [h2, h4, h6, h8]; done) | rfl
  exact (by first | with_reducible rfl | rw [x50, x51, x52] | rw [x52, x51, x50] | rfl)

/- impl.in -/
theorem c_impl_in (n : Int) (low : Int) (high : Int) (w : World) : Gives Try.prog 38 #[(Iv n), (Iv low), (Iv high)] w (fun v w' => v = (Bo (inI n low high))) := by
  refine enter [(Iv n), (Iv low), (Iv high), Ud, Ud, Ud, Ud, Ud, Ud, Ud, Ud, Ud, Ud, Ud, Ud] Try.func38 rfl Try.ntmps38 rfl ?_
  refine wr fun _ K1 => ?_
  refine ja (Bo false) ?_
  refine wn K1 ?_
  refine ws fun _ K2 => ?_
  obtain ⟨β1, hβ1⟩ : ∃ b : Bool, b = ((icmp .geq n low) && (icmp .leq n high)) := ⟨_, rfl⟩
  refine region_text (
    [Fact.pure [] (fun v => v = (Iv n)),
    Fact.pure [] (fun v => v = (Iv low)),
    Fact.pure [7, 8] (fun v => v = (Bo (icmp .geq n low))),
    Fact.pure [9] (fun v => v = (Bo (icmp .geq n low))),
    Fact.pure [10] (fun v => (icmp .geq n low) = true → v = (Iv n)),
    Fact.pure [10] (fun v => (icmp .geq n low) = true → v = (Iv high)),
    Fact.pure [11, 12, 10] (fun v => (icmp .geq n low) = true → v = (Bo (icmp .leq n high))),
    Fact.pure [10, 13] (fun v => v = (Bo β1))]) (by simp [Fact.pure, Fact.mem]) ?_
  refine R_p (fun u hu _ => does_move (u := (Iv n)) (ev rfl)) fun v3 => ?_
  refine R_p (fun u hu _ => does_move (u := (Iv low)) (ev rfl)) fun v4 => ?_
  refine R_p (fun u hu hF => ?_) fun v5 => ?_
  · have h7_ : v3 = (Iv n) := hF.1
    have h8_ : v4 = (Iv low) := hF.2.1
    clear hF; subst h7_ h8_
    exact does_icmp (p := n) (q := low) (.inr (.inr (.inr (.inr (.inr rfl))))) (ev rfl) (ev rfl)
  refine R_p (fun u hu hF => ?_) fun v6 => ?_
  · have h9_ : v5 = (Bo (icmp .geq n low)) := hF.1
    clear hF; subst h9_
    exact does_move (u := (Bo (icmp .geq n low))) (ev rfl)
  refine R_d (fun u hu hF => ?_) (fun v7 => ?_)
  · have h10_ : v6 = (Bo (icmp .geq n low)) := hF.1
    clear hF
    obtain rfl := h10_
    refine doesG_g (b := (icmp .geq n low)) rfl (yld rfl rfl) (fun hg1 => ?_) (fun hc => ⟨fun hg1 => absurd hg1 hc, Ext.refl _⟩)
    refine (does_move (u := (Iv n)) (ev rfl)).mono ?_; rintro _ _ ⟨rfl, rfl⟩
    exact ⟨fun _ => rfl, Ext.refl _⟩
  refine R_d (fun u hu hF => ?_) (fun v8 => ?_)
  · have h10_ : v6 = (Bo (icmp .geq n low)) := hF.1
    clear hF
    obtain rfl := h10_
    refine doesG_g (b := (icmp .geq n low)) rfl (yld rfl rfl) (fun hg1 => ?_) (fun hc => ⟨fun hg1 => absurd hg1 hc, Ext.refl _⟩)
    refine (does_move (u := (Iv high)) (ev rfl)).mono ?_; rintro _ _ ⟨rfl, rfl⟩
    exact ⟨fun _ => rfl, Ext.refl _⟩
  refine R_d (fun u hu hF => ?_) (fun v9 => ?_)
  · have h11_ : (icmp .geq n low) = true → v7 = (Iv n) := hF.1
    have h12_ : (icmp .geq n low) = true → v8 = (Iv high) := hF.2.1
    have h10_ : v6 = (Bo (icmp .geq n low)) := hF.2.2.1
    clear hF
    obtain rfl := h10_
    refine doesG_g (b := (icmp .geq n low)) rfl (yld rfl rfl) (fun hg1 => ?_) (fun hc => ⟨fun hg1 => absurd hg1 hc, Ext.refl _⟩)
    obtain rfl := h11_ hg1
    obtain rfl := h12_ hg1
    refine (does_icmp (p := n) (q := high) (.inr (.inr (.inr (.inl rfl)))) (ev rfl) (ev rfl)).mono ?_; rintro _ _ ⟨rfl, rfl⟩
    exact ⟨fun _ => rfl, Ext.refl _⟩
  refine R_d (fun u hu hF => ?_) (fun v10 => ?_)
  · have h10_ : v6 = (Bo (icmp .geq n low)) := hF.1
    have h13_ : (icmp .geq n low) = true → v9 = (Bo (icmp .leq n high)) := hF.2.1
    clear hF
    refine doesG_un rfl ?_
    skip
    obtain rfl := h10_
    refine (does_pick (b := (icmp .geq n low)) (u := v9) (v := (Bo false)) (ev rfl) (ev rfl) (ev rfl)).mono ?_; rintro _ _ ⟨rfl, rfl⟩; refine ⟨?_, Ext.refl _⟩; rw [hβ1]; skip
    cases hbb : (icmp .geq n low)
    all_goals first | (show _ = _; simp only [↓reduceIte, Bool.true_and, Bool.false_and, Bool.true_or, Bool.false_or, Bool.false_eq_true]; done) | (have e_ := h13_ hbb; subst e_; show _ = _; simp only [↓reduceIte, Bool.true_and, Bool.false_and, Bool.true_or, Bool.false_or, Bool.false_eq_true]; done) | rfl | (have e_ := h13_ hbb; subst e_; rfl) | (simp [hbb] at h13_ ⊢; first | done | rfl | (subst h13_; rfl) | simp_all) | (simp [hbb] at h13_ ⊢; done)
  refine RW_fin ?_; intro w11 E12 hP13
  obtain ⟨⟨⟨⟨⟨⟨⟨⟨-, -⟩, -⟩, -⟩, -⟩, -⟩, -⟩, -⟩, q14⟩ := hP13
  have X15 := Ext.gr (Ext.refl w) E12
  have q14 : v10 = (Bo β1) := q14
  obtain rfl := q14
  refine fz ?_
  refine ja (Bo β1) ?_
  refine wn K2 ?_
  refine wp_ret ?_
  refine ret_val (v := (Bo β1)) (res_T rfl (slot rfl)) X15 ?_
  have x16 : (inI n low high) = β1 := by first | with_reducible rfl | (simp only [inI, hβ1]; done) | (simp [inI, hβ1]; done) | rfl
  exact (by first | with_reducible rfl | rw [x16] | rfl)

/- impl.ValidGrid -/
theorem c_impl_ValidGrid (g : List Value) (A_g : GridT) (w : World) (hv_g : RGridT w A_g g) : Gives Try.prog 18 #[(.agg g.toArray)] w (fun v w' => v = (Bo (isGrid A_g))) := by
  obtain ⟨r1, r3, r5, r7, y9, rfl, h2, h4, h6, h8, h10⟩ := hv_g
  have hs13 := h10; have hs13l := Sl.len h10; obtain ⟨p11, q12, rfl⟩ := Sl.shape h10
  refine enter [(.agg #[(Fl r1), (Fl r3), (Fl r5), (Fl r7), (Iv A_g.x), (Iv A_g.y), (Iv A_g.z), (.slice p11 A_g.vals.length q12)]), Ud, Ud, Ud, Ud, Ud, Ud, Ud, Ud, Ud, Ud, Ud, Ud, Ud, Ud, Ud, Ud, Ud, Ud, Ud, Ud, Ud, Ud, Ud, Ud, Ud, Ud, Ud, Ud, Ud, Ud, Ud, Ud, Ud, Ud, Ud, Ud, Ud, Ud, Ud, Ud] Try.func18 rfl Try.ntmps18 rfl ?_
  refine wr fun _ K14 => ?_
  refine sd (does_box (u := (.agg #[(Fl r1), (Fl r3), (Fl r5), (Fl r7), (Iv A_g.x), (Iv A_g.y), (Iv A_g.z), (.slice p11 A_g.vals.length q12)])) (ev rfl)) ?_; rintro _ w19 ⟨b15, rfl, hb16, hB17, E18⟩
  change Blk _ _ [(Fl r1), (Fl r3), (Fl r5), (Fl r7), (Iv A_g.x), (Iv A_g.y), (Iv A_g.z), (.slice p11 A_g.vals.length q12)] at hB17
  have X21 := Ext.gr (Ext.refl w) E18
  refine fz ?_
  refine ja (Bo false) ?_
  refine wn K14 ?_
  refine ws fun _ K22 => ?_
  refine ws fun _ K23 => ?_
  obtain ⟨β1, hβ1⟩ : ∃ b : Bool, b = (finF (cf .f32 r7) && posF (cf .f32 r7)) := ⟨_, rfl⟩
  obtain ⟨β2, hβ2⟩ : ∃ b : Bool, b = ((!(finV A_g.low)) || (!β1)) := ⟨_, rfl⟩
  refine region_text (
    [Fact.pure [] (fun v => v = (Pt b15 0)),
    Fact.pure [6] (fun v => v = (.agg #[(Fl r1), (Fl r3), (Fl r5)])),
    Fact.pure [7] (fun v => v = (Bo (finV A_g.low))),
    Fact.pure [8] (fun v => v = (Bo (!(finV A_g.low)))),
    Fact.pure [9] (fun v => v = (Bo (!(finV A_g.low)))),
    Fact.pure [10] (fun v => (!(finV A_g.low)) = false → v = (Pt b15 3)),
    Fact.pure [11, 10] (fun v => (!(finV A_g.low)) = false → v = (Fl r7)),
    Fact.pure [12, 10] (fun v => (!(finV A_g.low)) = false → v = (Bo β1)),
    Fact.pure [13, 10] (fun v => (!(finV A_g.low)) = false → v = (Bo (!β1))),
    Fact.pure [10, 14] (fun v => v = (Bo β2))]) (by simp [Fact.pure, Fact.mem]) ?_
  refine R_p (fun u hu _ => does_fieldAddr (ev rfl) fa37_0) fun v24 => ?_
  refine R_p (fun u hu hF => ?_) fun v25 => ?_
  · have h6_ : v24 = (Pt b15 0) := hF.1
    clear hF; subst h6_
    exact does_loadAgg (cs := [(Fl r1), (Fl r3), (Fl r5)]) (ev rfl) Try.isAgg35 Try.sizeOf35 (Cells.sub (Blk.cells (hB17.ext hu)) 0 3) rfl
  refine R_d (fun u hu hF => ?_) (fun v26 => ?_)
  · have h7_ : v25 = (.agg #[(Fl r1), (Fl r3), (Fl r5)]) := hF.1
    clear hF
    refine doesG_un rfl ?_
    obtain rfl := h7_
    refine (does_call (args := #[(.agg #[(Fl r1), (Fl r3), (Fl r5)])]) cal35 (evs rfl) (c_impl_finiteVector [(Fl r1), (Fl r3), (Fl r5)] A_g.low _ ⟨r1, r3, r5, rfl, h2, h4, h6⟩)).mono ?_; rintro v u' ⟨hx, hv⟩
    exact ⟨hv, hx⟩
  refine R_p (fun u hu hF => ?_) fun v27 => ?_
  · have h8_ : v26 = (Bo (finV A_g.low)) := hF.1
    clear hF; subst h8_
    exact does_not (ev rfl)
  refine R_p (fun u hu hF => ?_) fun v28 => ?_
  · have h9_ : v27 = (Bo (!(finV A_g.low))) := hF.1
    clear hF; subst h9_
    exact does_move (u := (Bo (!(finV A_g.low)))) (ev rfl)
  refine R_d (fun u hu hF => ?_) (fun v29 => ?_)
  · have h10_ : v28 = (Bo (!(finV A_g.low))) := hF.1
    clear hF
    obtain rfl := h10_
    refine doesG_g (b := (!(finV A_g.low))) rfl (yld rfl rfl) (fun hg1 => ?_) (fun hc => ⟨fun hg1 => absurd hg1 hc, Ext.refl _⟩)
    refine (does_fieldAddr (ev rfl) fa37_1).mono ?_; rintro _ _ ⟨rfl, rfl⟩
    exact ⟨fun _ => rfl, Ext.refl _⟩
  refine R_d (fun u hu hF => ?_) (fun v30 => ?_)
  · have h11_ : (!(finV A_g.low)) = false → v29 = (Pt b15 3) := hF.1
    have h10_ : v28 = (Bo (!(finV A_g.low))) := hF.2.1
    clear hF
    obtain rfl := h10_
    refine doesG_g (b := (!(finV A_g.low))) rfl (yld rfl rfl) (fun hg1 => ?_) (fun hc => ⟨fun hg1 => absurd hg1 hc, Ext.refl _⟩)
    obtain rfl := h11_ hg1
    refine (does_load (u := (Fl r7)) (ev rfl) Try.isAgg22 (Cells.at (Blk.cells (hB17.ext hu)) 3 rfl)).mono ?_; rintro _ _ ⟨rfl, rfl⟩
    exact ⟨fun _ => rfl, Ext.refl _⟩
  refine R_d (fun u hu hF => ?_) (fun v31 => ?_)
  · have h12_ : (!(finV A_g.low)) = false → v30 = (Fl r7) := hF.1
    have h10_ : v28 = (Bo (!(finV A_g.low))) := hF.2.1
    clear hF
    obtain rfl := h10_
    refine doesG_g (b := (!(finV A_g.low))) rfl (yld rfl rfl) (fun hg1 => ?_) (fun hc => ⟨fun hg1 => absurd hg1 hc, Ext.refl _⟩)
    obtain rfl := h12_ hg1
    refine (does_call (args := #[(Fl r7)]) cal36 (evs rfl) (c_impl_stepOk r7 _)).mono ?_; rintro v u' ⟨hx, hv⟩
    exact ⟨fun _ => hv.trans (by simp only [hβ1]), hx⟩
  refine R_d (fun u hu hF => ?_) (fun v32 => ?_)
  · have h13_ : (!(finV A_g.low)) = false → v31 = (Bo β1) := hF.1
    have h10_ : v28 = (Bo (!(finV A_g.low))) := hF.2.1
    clear hF
    obtain rfl := h10_
    refine doesG_g (b := (!(finV A_g.low))) rfl (yld rfl rfl) (fun hg1 => ?_) (fun hc => ⟨fun hg1 => absurd hg1 hc, Ext.refl _⟩)
    obtain rfl := h13_ hg1
    refine (does_not (ev rfl)).mono ?_; rintro _ _ ⟨rfl, rfl⟩
    exact ⟨fun _ => rfl, Ext.refl _⟩
  refine R_d (fun u hu hF => ?_) (fun v33 => ?_)
  · have h10_ : v28 = (Bo (!(finV A_g.low))) := hF.1
    have h14_ : (!(finV A_g.low)) = false → v32 = (Bo (!β1)) := hF.2.1
    clear hF
    refine doesG_un rfl ?_
    skip
    obtain rfl := h10_
    refine (does_pick (b := (!(finV A_g.low))) (u := (Bo true)) (v := v32) (ev rfl) (ev rfl) (ev rfl)).mono ?_; rintro _ _ ⟨rfl, rfl⟩; refine ⟨?_, Ext.refl _⟩; rw [hβ2]; skip
    cases hbb : (!(finV A_g.low))
    all_goals first | (show _ = _; simp only [↓reduceIte, Bool.true_and, Bool.false_and, Bool.true_or, Bool.false_or, Bool.false_eq_true]; done) | (have e_ := h14_ hbb; subst e_; show _ = _; simp only [↓reduceIte, Bool.true_and, Bool.false_and, Bool.true_or, Bool.false_or, Bool.false_eq_true]; done) | rfl | (have e_ := h14_ hbb; subst e_; rfl) | (simp [hbb] at h14_ ⊢; first | done | rfl | (subst h14_; rfl) | simp_all) | (simp [hbb] at h14_ ⊢; done)
  refine RW_fin ?_; intro w34 E35 hP36
  obtain ⟨⟨⟨⟨⟨⟨⟨⟨⟨⟨-, -⟩, -⟩, -⟩, -⟩, -⟩, -⟩, -⟩, -⟩, -⟩, q37⟩ := hP36
  have X38 := Ext.gr X21 E35
  have q37 : v33 = (Bo β2) := q37
  obtain rfl := q37
  refine fz ?_
  refine wn K23 ?_
  refine wp_cond_split (t := β2) (ev rfl) (fun c39 => ?_) (fun c39 => ?_)
  · have c39' := c39
    (try simp only [hβ1, hβ2] at c39')
    (try simp only [icmp, bs] at c39')
    refine wr fun _ K40 => ?_
    refine ja (Bo false) ?_
    refine wn K40 ?_
    refine wp_ret ?_
    dsimp only [Exit.then, Exit.inBlock]
    refine ret_val (v := (Bo false)) (res_T rfl (slot rfl)) X38 ?_
    try simp only [h2, h4, h6, h8, hβ1, hβ2] at c39
    have x41 : (isGrid A_g) = false := by first | with_reducible rfl | (simp only [isGrid, cntOk, prod3, h2, h4, h6, h8, hβ1, hβ2, c39]; done) | (simp [isGrid, cntOk, prod3, h2, h4, h6, h8, hβ1, hβ2, c39]; done) | (revert c39; simp +contextual [isGrid, cntOk, prod3, h2, h4, h6, h8, hβ1, hβ2]; done) | (rcases c39' with hh | hh <;> simp only [hh, isGrid, cntOk, prod3, h2, h4, h6, h8, hβ1, hβ2, c39]; done) | (rcases c39' with hh | hh <;> simp_all [isGrid, cntOk, prod3]; done) | (rcases c39' with hh | hh | hh <;> simp_all [isGrid, cntOk, prod3]; done) | (rcases c39' with hh | hh | hh | hh <;> simp_all [isGrid, cntOk, prod3]; done) | (simp_all [isGrid, cntOk, prod3]; done) | rfl
    exact (by first | with_reducible rfl | rw [x41] | rfl)
  have c39' := c39
  (try simp only [hβ1, hβ2] at c39')
  (try simp only [icmp, bs] at c39')
  refine wp_skip (K22 _ _ ?_)
  refine ws fun _ K42 => ?_
  refine wr fun _ K43 => ?_
  refine sd (does_call (args := #[(Pt b15 0)]) cal37 (evs rfl) (c_impl_Grid_counts b15 0 [(Fl r1), (Fl r3), (Fl r5), (Fl r7), (Iv A_g.x), (Iv A_g.y), (Iv A_g.z), (.slice p11 A_g.vals.length q12)] A_g _ (Blk.cells (hB17.ext E35)) ⟨r1, r3, r5, r7, (.slice p11 A_g.vals.length q12), rfl, h2, h4, h6, h8, (Sl.ext hs13 RF.mono X38)⟩)) ?_; rintro _ w45 ⟨E44, rfl⟩
  have X46 := Ext.gr X38 E44
  refine fz ?_
  refine jm (Iv 0) ?_
  refine wn K43 ?_
  refine wp_block ?_
  refine loop_unroll 4 ?_
  refine un_step ?_
  refine wr fun _ K47 => ?_
  refine jj (does_icmp (p := 0) (q := 3) (.inr (.inr (.inl rfl))) (ev rfl) (ev rfl)) ?_
  refine wn K47 ?_
  refine ws fun _ K48 => ?_
  refine wp_cond_true (ev rfl) ?_
  refine wp_skip (K48 _ _ ?_)
  refine ws fun _ K49 => ?_
  refine wp_block ?_
  refine wr fun _ K50 => ?_
  refine jj (does_index_run (r := (Iv A_g.x)) (ev rfl) (ev rfl) (fun w => ix69_0 _ _ _ w)) ?_
  refine ja (Iv A_g.x) ?_
  refine wn K50 ?_
  refine wr fun _ K51 => ?_
  refine jm (Iv A_g.x) ?_
  refine sd (does_call (args := #[(Iv A_g.x), (Iv 1), (Iv 16)]) cal38 (evs rfl) (c_impl_in A_g.x 1 16 _)) ?_; rintro _ w53 ⟨E52, rfl⟩
  have X54 := Ext.gr X46 E52
  refine fz ?_
  refine jj (does_not (ev rfl)) ?_
  refine wn K51 ?_
  refine wp_cond_split (t := !(inI A_g.x 1 16)) (ev rfl) (fun c55 => ?_) (fun c55 => ?_)
  · rw [Bool.not_eq_true'] at c55
    have c55' := c55
    (try simp only [hβ1, hβ2] at c55')
    (try simp only [icmp, bs] at c55')
    refine wr fun _ K56 => ?_
    refine ja (Bo false) ?_
    refine wn K56 ?_
    refine wp_ret ?_
    dsimp only [Exit.then, Exit.inBlock]
    refine ret_val (v := (Bo false)) (res_T rfl (slot rfl)) X54 ?_
    try simp only [h2, h4, h6, h8, hβ1, hβ2] at c39 c55
    have x57 : (isGrid A_g) = false := by first | with_reducible rfl | (simp only [isGrid, cntOk, prod3, h2, h4, h6, h8, hβ1, hβ2, c39, c55]; done) | (simp [isGrid, cntOk, prod3, h2, h4, h6, h8, hβ1, hβ2, c39, c55]; done) | (revert c39 c55; simp +contextual [isGrid, cntOk, prod3, h2, h4, h6, h8, hβ1, hβ2]; done) | (rcases c39' with hh | hh <;> simp only [hh, isGrid, cntOk, prod3, h2, h4, h6, h8, hβ1, hβ2, c39, c55]; done) | (rcases c55' with hh | hh <;> simp only [hh, isGrid, cntOk, prod3, h2, h4, h6, h8, hβ1, hβ2, c39, c55]; done) | (rcases c55' with hh | hh <;> simp_all [isGrid, cntOk, prod3]; done) | (rcases c55' with hh | hh | hh <;> simp_all [isGrid, cntOk, prod3]; done) | (rcases c55' with hh | hh | hh | hh <;> simp_all [isGrid, cntOk, prod3]; done) | (simp_all [isGrid, cntOk, prod3]; done) | rfl
    exact (by first | with_reducible rfl | rw [x57] | rfl)
  rw [Bool.not_eq_false'] at c55
  have c55' := c55
  (try simp only [hβ1, hβ2] at c55')
  (try simp only [icmp, bs] at c55')
  refine wp_skip (K49 _ _ ?_)
  refine wp_region_lit ?_
  refine jj (does_iarith (p := 0) (q := 1) (r := (1)) (ev rfl) (ev rfl) (.inl ⟨rfl, rfl⟩)) ?_
  refine jm (Iv 1) ?_
  refine wpList_nil ?_
  refine un_step ?_
  refine wr fun _ K58 => ?_
  refine jj (does_icmp (p := 1) (q := 3) (.inr (.inr (.inl rfl))) (ev rfl) (ev rfl)) ?_
  refine wn K58 ?_
  refine ws fun _ K59 => ?_
  refine wp_cond_true (ev rfl) ?_
  refine wp_skip (K59 _ _ ?_)
  refine ws fun _ K60 => ?_
  refine wp_block ?_
  refine wr fun _ K61 => ?_
  refine jj (does_index_run (r := (Iv A_g.y)) (ev rfl) (ev rfl) (fun w => ix69_1 _ _ _ w)) ?_
  refine ja (Iv A_g.y) ?_
  refine wn K61 ?_
  refine wr fun _ K62 => ?_
  refine jm (Iv A_g.y) ?_
  refine sd (does_call (args := #[(Iv A_g.y), (Iv 1), (Iv 16)]) cal38 (evs rfl) (c_impl_in A_g.y 1 16 _)) ?_; rintro _ w64 ⟨E63, rfl⟩
  have X65 := Ext.gr X54 E63
  refine fz ?_
  refine jj (does_not (ev rfl)) ?_
  refine wn K62 ?_
  refine wp_cond_split (t := !(inI A_g.y 1 16)) (ev rfl) (fun c66 => ?_) (fun c66 => ?_)
  · rw [Bool.not_eq_true'] at c66
    have c66' := c66
    (try simp only [hβ1, hβ2] at c66')
    (try simp only [icmp, bs] at c66')
    refine wr fun _ K67 => ?_
    refine ja (Bo false) ?_
    refine wn K67 ?_
    refine wp_ret ?_
    dsimp only [Exit.then, Exit.inBlock]
    refine ret_val (v := (Bo false)) (res_T rfl (slot rfl)) X65 ?_
    try simp only [h2, h4, h6, h8, hβ1, hβ2] at c39 c55 c66
    have x68 : (isGrid A_g) = false := by first | with_reducible rfl | (simp only [isGrid, cntOk, prod3, h2, h4, h6, h8, hβ1, hβ2, c39, c55, c66]; done) | (simp [isGrid, cntOk, prod3, h2, h4, h6, h8, hβ1, hβ2, c39, c55, c66]; done) | (revert c39 c55 c66; simp +contextual [isGrid, cntOk, prod3, h2, h4, h6, h8, hβ1, hβ2]; done) | (rcases c39' with hh | hh <;> simp only [hh, isGrid, cntOk, prod3, h2, h4, h6, h8, hβ1, hβ2, c39, c55, c66]; done) | (rcases c55' with hh | hh <;> simp only [hh, isGrid, cntOk, prod3, h2, h4, h6, h8, hβ1, hβ2, c39, c55, c66]; done) | (rcases c66' with hh | hh <;> simp only [hh, isGrid, cntOk, prod3, h2, h4, h6, h8, hβ1, hβ2, c39, c55, c66]; done) | (rcases c66' with hh | hh <;> simp_all [isGrid, cntOk, prod3]; done) | (rcases c66' with hh | hh | hh <;> simp_all [isGrid, cntOk, prod3]; done) | (rcases c66' with hh | hh | hh | hh <;> simp_all [isGrid, cntOk, prod3]; done) | (simp_all [isGrid, cntOk, prod3]; done) | rfl
    exact (by first | with_reducible rfl | rw [x68] | rfl)
  rw [Bool.not_eq_false'] at c66
  have c66' := c66
  (try simp only [hβ1, hβ2] at c66')
  (try simp only [icmp, bs] at c66')
  refine wp_skip (K60 _ _ ?_)
  refine wp_region_lit ?_
  refine jj (does_iarith (p := 1) (q := 1) (r := (2)) (ev rfl) (ev rfl) (.inl ⟨rfl, rfl⟩)) ?_
  refine jm (Iv 2) ?_
  refine wpList_nil ?_
  refine un_step ?_
  refine wr fun _ K69 => ?_
  refine jj (does_icmp (p := 2) (q := 3) (.inr (.inr (.inl rfl))) (ev rfl) (ev rfl)) ?_
  refine wn K69 ?_
  refine ws fun _ K70 => ?_
  refine wp_cond_true (ev rfl) ?_
  refine wp_skip (K70 _ _ ?_)
  refine ws fun _ K71 => ?_
  refine wp_block ?_
  refine wr fun _ K72 => ?_
  refine jj (does_index_run (r := (Iv A_g.z)) (ev rfl) (ev rfl) (fun w => ix69_2 _ _ _ w)) ?_
  refine ja (Iv A_g.z) ?_
  refine wn K72 ?_
  refine wr fun _ K73 => ?_
  refine jm (Iv A_g.z) ?_
  refine sd (does_call (args := #[(Iv A_g.z), (Iv 1), (Iv 16)]) cal38 (evs rfl) (c_impl_in A_g.z 1 16 _)) ?_; rintro _ w75 ⟨E74, rfl⟩
  have X76 := Ext.gr X65 E74
  refine fz ?_
  refine jj (does_not (ev rfl)) ?_
  refine wn K73 ?_
  refine wp_cond_split (t := !(inI A_g.z 1 16)) (ev rfl) (fun c77 => ?_) (fun c77 => ?_)
  · rw [Bool.not_eq_true'] at c77
    have c77' := c77
    (try simp only [hβ1, hβ2] at c77')
    (try simp only [icmp, bs] at c77')
    refine wr fun _ K78 => ?_
    refine ja (Bo false) ?_
    refine wn K78 ?_
    refine wp_ret ?_
    dsimp only [Exit.then, Exit.inBlock]
    refine ret_val (v := (Bo false)) (res_T rfl (slot rfl)) X76 ?_
    try simp only [h2, h4, h6, h8, hβ1, hβ2] at c39 c55 c66 c77
    have x79 : (isGrid A_g) = false := by first | with_reducible rfl | (simp only [isGrid, cntOk, prod3, h2, h4, h6, h8, hβ1, hβ2, c39, c55, c66, c77]; done) | (simp [isGrid, cntOk, prod3, h2, h4, h6, h8, hβ1, hβ2, c39, c55, c66, c77]; done) | (revert c39 c55 c66 c77; simp +contextual [isGrid, cntOk, prod3, h2, h4, h6, h8, hβ1, hβ2]; done) | (rcases c39' with hh | hh <;> simp only [hh, isGrid, cntOk, prod3, h2, h4, h6, h8, hβ1, hβ2, c39, c55, c66, c77]; done) | (rcases c55' with hh | hh <;> simp only [hh, isGrid, cntOk, prod3, h2, h4, h6, h8, hβ1, hβ2, c39, c55, c66, c77]; done) | (rcases c66' with hh | hh <;> simp only [hh, isGrid, cntOk, prod3, h2, h4, h6, h8, hβ1, hβ2, c39, c55, c66, c77]; done) | (rcases c77' with hh | hh <;> simp only [hh, isGrid, cntOk, prod3, h2, h4, h6, h8, hβ1, hβ2, c39, c55, c66, c77]; done) | (rcases c77' with hh | hh <;> simp_all [isGrid, cntOk, prod3]; done) | (rcases c77' with hh | hh | hh <;> simp_all [isGrid, cntOk, prod3]; done) | (rcases c77' with hh | hh | hh | hh <;> simp_all [isGrid, cntOk, prod3]; done) | (simp_all [isGrid, cntOk, prod3]; done) | rfl
    exact (by first | with_reducible rfl | rw [x79] | rfl)
  rw [Bool.not_eq_false'] at c77
  have c77' := c77
  (try simp only [hβ1, hβ2] at c77')
  (try simp only [icmp, bs] at c77')
  refine wp_skip (K71 _ _ ?_)
  refine wp_region_lit ?_
  refine jj (does_iarith (p := 2) (q := 1) (r := (3)) (ev rfl) (ev rfl) (.inl ⟨rfl, rfl⟩)) ?_
  refine jm (Iv 3) ?_
  refine wpList_nil ?_
  refine un_step ?_
  refine wr fun _ K80 => ?_
  refine jj (does_icmp (p := 3) (q := 3) (.inr (.inr (.inl rfl))) (ev rfl) (ev rfl)) ?_
  refine wn K80 ?_
  refine ws fun _ K81 => ?_
  refine wp_cond_false (ev rfl) ?_
  refine wp_exit ?_
  refine K42 _ _ ?_
  refine wr fun _ K82 => ?_
  refine jj (does_fieldAddr (ev rfl) fa37_2) ?_
  refine jj (does_load (u := (Iv A_g.x)) (ev rfl) Try.isAgg2 (Cells.at (Blk.cells (((((hB17.ext E35).ext E44).ext E52).ext E63).ext E74)) 4 rfl)) ?_
  refine jj (does_fieldAddr (ev rfl) fa37_3) ?_
  refine jj (does_load (u := (Iv A_g.y)) (ev rfl) Try.isAgg2 (Cells.at (Blk.cells (((((hB17.ext E35).ext E44).ext E52).ext E63).ext E74)) 5 rfl)) ?_
  refine jj (does_iarith (p := A_g.x) (q := A_g.y) (r := IntKind.i64.wrap (A_g.x * A_g.y)) (ev rfl) (ev rfl) (.inr (.inr ⟨rfl, rfl⟩))) ?_
  refine jj (does_fieldAddr (ev rfl) fa37_4) ?_
  refine jj (does_load (u := (Iv A_g.z)) (ev rfl) Try.isAgg2 (Cells.at (Blk.cells (((((hB17.ext E35).ext E44).ext E52).ext E63).ext E74)) 6 rfl)) ?_
  refine jj (does_iarith (p := IntKind.i64.wrap (A_g.x * A_g.y)) (q := A_g.z) (r := IntKind.i64.wrap ((IntKind.i64.wrap (A_g.x * A_g.y)) * A_g.z)) (ev rfl) (ev rfl) (.inr (.inr ⟨rfl, rfl⟩))) ?_
  refine ja (Iv (IntKind.i64.wrap ((IntKind.i64.wrap (A_g.x * A_g.y)) * A_g.z))) ?_
  refine wn K82 ?_
  refine ws fun _ K83 => ?_
  obtain ⟨β3, hβ3⟩ : ∃ b : Bool, b = (icmp .leq (IntKind.i64.wrap ((IntKind.i64.wrap (A_g.x * A_g.y)) * A_g.z)) 1024) := ⟨_, rfl⟩
  obtain ⟨β4, hβ4⟩ : ∃ b : Bool, b = (icmp .eql (A_g.vals.length : Int) (IntKind.i64.wrap ((IntKind.i64.wrap (A_g.x * A_g.y)) * A_g.z))) := ⟨_, rfl⟩
  refine region_text (
    [Fact.pure [] (fun v => v = (Iv (IntKind.i64.wrap ((IntKind.i64.wrap (A_g.x * A_g.y)) * A_g.z)))),
    Fact.pure [32] (fun v => v = (Bo β3)),
    Fact.pure [33] (fun v => v = (Bo β3)),
    Fact.pure [34] (fun v => β3 = true → v = (Pt b15 7)),
    Fact.pure [35, 34] (fun v => β3 = true → v = (.slice p11 A_g.vals.length q12)),
    Fact.pure [36, 34] (fun v => β3 = true → v = (Iv (A_g.vals.length : Int))),
    Fact.pure [34] (fun v => β3 = true → v = (Iv (IntKind.i64.wrap ((IntKind.i64.wrap (A_g.x * A_g.y)) * A_g.z)))),
    Fact.pure [37, 38, 34] (fun v => β3 = true → v = (Bo β4)),
    Fact.pure [34, 39] (fun v => v = (Bo (β3 && β4)))]) (by simp [Fact.pure, Fact.mem]) ?_
  refine R_p (fun u hu _ => does_move (u := (Iv (IntKind.i64.wrap ((IntKind.i64.wrap (A_g.x * A_g.y)) * A_g.z)))) (ev rfl)) fun v84 => ?_
  refine R_d (fun u hu hF => ?_) (fun v85 => ?_)
  · have h32_ : v84 = (Iv (IntKind.i64.wrap ((IntKind.i64.wrap (A_g.x * A_g.y)) * A_g.z))) := hF.1
    clear hF
    refine doesG_un rfl ?_
    obtain rfl := h32_
    refine (does_icmp (p := IntKind.i64.wrap ((IntKind.i64.wrap (A_g.x * A_g.y)) * A_g.z)) (q := 1024) (.inr (.inr (.inr (.inl rfl)))) (ev rfl) (ev rfl)).mono ?_; rintro _ _ ⟨rfl, rfl⟩
    exact ⟨(by first | rfl | (show _ = _; simp only [hβ3]; done) | (show _ = _; simp only [hβ3]; rfl)), Ext.refl _⟩
  refine R_p (fun u hu hF => ?_) fun v86 => ?_
  · have h33_ : v85 = (Bo β3) := hF.1
    clear hF; subst h33_
    exact does_move (u := (Bo β3)) (ev rfl)
  refine R_d (fun u hu hF => ?_) (fun v87 => ?_)
  · have h34_ : v86 = (Bo β3) := hF.1
    clear hF
    obtain rfl := h34_
    refine doesG_g (b := β3) rfl (yld rfl rfl) (fun hg1 => ?_) (fun hc => ⟨fun hg1 => absurd hg1 hc, Ext.refl _⟩)
    refine (does_fieldAddr (ev rfl) fa37_5).mono ?_; rintro _ _ ⟨rfl, rfl⟩
    exact ⟨fun _ => rfl, Ext.refl _⟩
  refine R_d (fun u hu hF => ?_) (fun v88 => ?_)
  · have h35_ : β3 = true → v87 = (Pt b15 7) := hF.1
    have h34_ : v86 = (Bo β3) := hF.2.1
    clear hF
    obtain rfl := h34_
    refine doesG_g (b := β3) rfl (yld rfl rfl) (fun hg1 => ?_) (fun hc => ⟨fun hg1 => absurd hg1 hc, Ext.refl _⟩)
    obtain rfl := h35_ hg1
    refine (does_load (u := (.slice p11 A_g.vals.length q12)) (ev rfl) Try.isAgg25 (Cells.at (Blk.cells ((((((hB17.ext E35).ext E44).ext E52).ext E63).ext E74).ext hu)) 7 rfl)).mono ?_; rintro _ _ ⟨rfl, rfl⟩
    exact ⟨fun _ => rfl, Ext.refl _⟩
  refine R_d (fun u hu hF => ?_) (fun v89 => ?_)
  · have h36_ : β3 = true → v88 = (.slice p11 A_g.vals.length q12) := hF.1
    have h34_ : v86 = (Bo β3) := hF.2.1
    clear hF
    obtain rfl := h34_
    refine doesG_g (b := β3) rfl (yld rfl rfl) (fun hg1 => ?_) (fun hc => ⟨fun hg1 => absurd hg1 hc, Ext.refl _⟩)
    obtain rfl := h36_ hg1
    refine (does_len_slice Try.underlying25 (ev rfl)).mono ?_; rintro _ _ ⟨rfl, rfl⟩
    exact ⟨fun _ => rfl, Ext.refl _⟩
  refine R_d (fun u hu hF => ?_) (fun v90 => ?_)
  · have h34_ : v86 = (Bo β3) := hF.1
    clear hF
    obtain rfl := h34_
    refine doesG_g (b := β3) rfl (yld rfl rfl) (fun hg1 => ?_) (fun hc => ⟨fun hg1 => absurd hg1 hc, Ext.refl _⟩)
    refine (does_move (u := (Iv (IntKind.i64.wrap ((IntKind.i64.wrap (A_g.x * A_g.y)) * A_g.z)))) (ev rfl)).mono ?_; rintro _ _ ⟨rfl, rfl⟩
    exact ⟨fun _ => rfl, Ext.refl _⟩
  refine R_d (fun u hu hF => ?_) (fun v91 => ?_)
  · have h37_ : β3 = true → v89 = (Iv (A_g.vals.length : Int)) := hF.1
    have h38_ : β3 = true → v90 = (Iv (IntKind.i64.wrap ((IntKind.i64.wrap (A_g.x * A_g.y)) * A_g.z))) := hF.2.1
    have h34_ : v86 = (Bo β3) := hF.2.2.1
    clear hF
    obtain rfl := h34_
    refine doesG_g (b := β3) rfl (yld rfl rfl) (fun hg1 => ?_) (fun hc => ⟨fun hg1 => absurd hg1 hc, Ext.refl _⟩)
    obtain rfl := h37_ hg1
    obtain rfl := h38_ hg1
    refine (does_icmp (p := (A_g.vals.length : Int)) (q := IntKind.i64.wrap ((IntKind.i64.wrap (A_g.x * A_g.y)) * A_g.z)) (.inl rfl) (ev rfl) (ev rfl)).mono ?_; rintro _ _ ⟨rfl, rfl⟩
    exact ⟨fun _ => (by first | rfl | (show _ = _; simp only [hβ4]; done) | (show _ = _; simp only [hβ4]; rfl)), Ext.refl _⟩
  refine R_d (fun u hu hF => ?_) (fun v92 => ?_)
  · have h34_ : v86 = (Bo β3) := hF.1
    have h39_ : β3 = true → v91 = (Bo β4) := hF.2.1
    clear hF
    refine doesG_un rfl ?_
    skip
    obtain rfl := h34_
    refine (does_pick (b := β3) (u := v91) (v := (Bo false)) (ev rfl) (ev rfl) (ev rfl)).mono ?_; rintro _ _ ⟨rfl, rfl⟩; refine ⟨?_, Ext.refl _⟩; skip
    cases hbb : β3
    all_goals first | (show _ = _; simp only [↓reduceIte, Bool.true_and, Bool.false_and, Bool.true_or, Bool.false_or, Bool.false_eq_true]; done) | (have e_ := h39_ hbb; subst e_; show _ = _; simp only [↓reduceIte, Bool.true_and, Bool.false_and, Bool.true_or, Bool.false_or, Bool.false_eq_true]; done) | rfl | (have e_ := h39_ hbb; subst e_; rfl) | (simp [hbb] at h39_ ⊢; first | done | rfl | (subst h39_; rfl) | simp_all) | (simp [hbb] at h39_ ⊢; done)
  refine RW_fin ?_; intro w93 E94 hP95
  obtain ⟨⟨⟨⟨⟨⟨⟨⟨⟨-, -⟩, -⟩, -⟩, -⟩, -⟩, -⟩, -⟩, -⟩, q96⟩ := hP95
  have X97 := Ext.gr X76 E94
  have q96 : v92 = (Bo (β3 && β4)) := q96
  obtain rfl := q96
  refine fz ?_
  refine ja (Bo (β3 && β4)) ?_
  refine wn K83 ?_
  refine wp_ret ?_
  refine ret_val (v := (Bo (β3 && β4))) (res_T rfl (slot rfl)) X97 ?_
  try simp only [h2, h4, h6, h8, hβ1, hβ2, hβ3, hβ4] at c39 c55 c66 c77
  have x98 : (isGrid A_g) = (β3 && β4) := by first | with_reducible rfl | (simp only [isGrid, cntOk, prod3, h2, h4, h6, h8, hβ1, hβ2, hβ3, hβ4, c39, c55, c66, c77]; done) | (simp [isGrid, cntOk, prod3, h2, h4, h6, h8, hβ1, hβ2, hβ3, hβ4, c39, c55, c66, c77]; done) | (revert c39 c55 c66 c77; simp +contextual [isGrid, cntOk, prod3, h2, h4, h6, h8, hβ1, hβ2, hβ3, hβ4]; done) | (rcases c39' with hh | hh <;> simp only [hh, isGrid, cntOk, prod3, h2, h4, h6, h8, hβ1, hβ2, hβ3, hβ4, c39, c55, c66, c77]; done) | (rcases c55' with hh | hh <;> simp only [hh, isGrid, cntOk, prod3, h2, h4, h6, h8, hβ1, hβ2, hβ3, hβ4, c39, c55, c66, c77]; done) | (rcases c66' with hh | hh <;> simp only [hh, isGrid, cntOk, prod3, h2, h4, h6, h8, hβ1, hβ2, hβ3, hβ4, c39, c55, c66, c77]; done) | (rcases c77' with hh | hh <;> simp only [hh, isGrid, cntOk, prod3, h2, h4, h6, h8, hβ1, hβ2, hβ3, hβ4, c39, c55, c66, c77]; done) | (rcases c77' with hh | hh <;> simp_all [isGrid, cntOk, prod3]; done) | (rcases c77' with hh | hh | hh <;> simp_all [isGrid, cntOk, prod3]; done) | (rcases c77' with hh | hh | hh | hh <;> simp_all [isGrid, cntOk, prod3]; done) | (simp_all [isGrid, cntOk, prod3]; done) | rfl
  exact (by first | with_reducible rfl | rw [x98] | rfl)

/- slices.IndexFunc[[][]int64,[]int64] -/
theorem c_slices_IndexFunc_SS_int64_int64 (xs : Value) (L_xs : List (List Int)) (f : Value) (pr_f : List Int → Bool) (w : World) (hv_xs : Sl (RS RI 1) 1 w xs L_xs) (hv_f : ∃ fi fst cap, f = .func (.func fi) fst cap ∧ (∀ args w, (callFunc fi args).run Try.prog w = .ok (.enter fi args) w) ∧ ∀ (y0 : Value) (X0 : List Int) u, Ext w u → Sl RI 1 u y0 X0 → Gives Try.prog fi (fst ++ #[y0] ++ cap) u (fun v _ => v = .bool (pr_f X0))) : Gives Try.prog 61 #[xs, f] w (fun v w' => v = (Iv (findI pr_f L_xs))) := by
  have hlen_xs := Sl.len hv_xs; obtain ⟨p_xs, q_xs, rfl⟩ := Sl.shape hv_xs
  obtain ⟨f_f, s_f, c_f, rfl, hcal_f, hg_f⟩ := hv_f
  refine enter [(.slice p_xs L_xs.length q_xs), (.func (.func f_f) s_f c_f), Ud, Ud, Ud, Ud, Ud, Ud, Ud, Ud, Ud, Ud, Ud, Ud, Ud, Ud, Ud, Ud, Ud] Try.func61 rfl Try.ntmps61 rfl ?_
  refine wr fun _ K1 => ?_
  refine ja (Iv 0) ?_
  refine wn K1 ?_
  refine ws fun _ K2 => ?_
  refine wr fun _ K3 => ?_
  refine jm (.slice p_xs L_xs.length q_xs) ?_
  refine jj (does_len_slice Try.underlying30 (ev rfl)) ?_
  refine jm (Iv 0) ?_
  refine wn K3 ?_
  refine wp_block ?_
  refine loop_ghost (σ := Nat) (fun k a w' => ∃ u4 : Nat → Value, a = fr [(.slice p_xs L_xs.length q_xs), (.func (.func f_f) s_f c_f), Ud, Ud, (u4 4), (u4 5), (.slice p_xs L_xs.length q_xs), (Iv (L_xs.length : Int)), (Iv (k : Int)), (u4 9), (u4 10), (u4 11), (u4 12), (u4 13), (u4 14), (u4 15), (u4 16), (u4 17), (u4 18)] ∧ Ext w w' ∧ (k ≤ L_xs.length ∧ NoneTo pr_f L_xs k)) (fun k => L_xs.length - k) 0 ?_ ?_
  · refine ⟨pk [(4, Iv 0)], rfl, Ext.refl _, ?_⟩
    exact ⟨Nat.zero_le _, NoneTo.zero⟩
  · rintro k a w5 ⟨u4, rfl, E6, ⟨hk, hno⟩⟩
    have X8 := Ext.gr (Ext.refl w) E6
    refine wr fun _ K9 => ?_
    refine jj (does_icmp (p := (k : Int)) (q := (L_xs.length : Int)) (.inr (.inr (.inl rfl))) (ev rfl) (ev rfl)) ?_
    refine wn K9 ?_
    refine ws fun _ K10 => ?_
    refine wp_cond_split (t := icmp .lss (k : Int) (L_xs.length : Int)) (ev rfl) (fun c11 => ?_) (fun c11 => ?_)
    · have c11' := c11
      (try simp only [icmp, bs] at c11')
      refine wp_skip (K10 _ _ ?_)
      refine ws fun _ K12 => ?_
      refine wp_block ?_
      refine wr fun _ K13 => ?_
      refine jm (Iv (k : Int)) ?_
      refine ja (Iv (k : Int)) ?_
      refine wn K13 ?_
      refine wr fun _ K14 => ?_
      refine jm (.func (.func f_f) s_f c_f) ?_
      refine jm (.slice p_xs L_xs.length q_xs) ?_
      refine jm (Iv (k : Int)) ?_
      obtain ⟨el1, hel1⟩ : ∃ e, L_xs[k]? = some e := ⟨_, List.getElem?_eq_getElem (by omega)⟩
      refine sd (does_indexSl (R := (RS RI 1)) (i := (k : Int)) (xs := L_xs) (e := el1) Try.underlying30 Try.sizeOf65 (ev rfl) (ev rfl) (Sl.ext hv_xs (RS.mono RI.mono) X8) (by omega) hel1) ?_; rintro _ w5 ⟨b15, o16, _, rfl, hc18, ⟨y19, rfl, h20⟩, rfl⟩
      have hs23 := h20; have hs23l := Sl.len h20; obtain ⟨p21, q22, rfl⟩ := Sl.shape h20
      refine fz ?_
      refine jj (does_load (u := (.slice p21 el1.length q22)) (ev rfl) Try.isAgg65 (Cells.at hc18 0 rfl)) ?_
      refine sd (does_callf (args := #[(.slice p21 el1.length q22)]) (ev rfl) hcal_f (evs rfl) (hg_f (.slice p21 el1.length q22) el1 _ X8 hs23)) ?_; rintro _ w25 ⟨E24, rfl⟩
      have X26 := Ext.gr X8 E24
      refine fz ?_
      refine wn K14 ?_
      refine wp_cond_split (t := pr_f el1) (ev rfl) (fun c27 => ?_) (fun c27 => ?_)
      · have c27' := c27
        refine wr fun _ K28 => ?_
        refine jm (Iv (k : Int)) ?_
        refine ja (Iv (k : Int)) ?_
        refine wn K28 ?_
        refine wp_ret ?_
        dsimp only [Exit.then, Exit.inBlock]
        refine ret_val (v := (Iv (k : Int))) (res_T rfl (slot rfl)) X26 ?_
        try simp only [hel1] at c11 c27
        have x29 : (findI pr_f L_xs : Int) = (k : Int) := by first | exact findI_at hno (by assumption) (by simp_all) | exact findI_none hno (by omega)
        exact (by first | with_reducible rfl | rw [x29] | rfl)
      have c27' := c27
      refine wp_skip (K12 _ _ ?_)
      refine wp_region_lit ?_
      refine jj (does_iarith (p := (k : Int)) (q := 1) (r := (k : Int) + 1) (ev rfl) (ev rfl) (.inl ⟨rfl, (in_i64 (by omega) (by omega)).symm⟩)) ?_
      refine jm (Iv ((k : Int) + 1)) ?_
      refine wpList_nil ?_
      refine ⟨k + 1, ⟨pk [(4, u4 4), (5, Iv (k : Int)), (9, Bo (icmp .lss (k : Int) (L_xs.length : Int))), (10, Iv (k : Int)), (11, .func (.func f_f) s_f c_f), (12, (.slice p_xs L_xs.length q_xs)), (13, Iv (k : Int)), (14, Pt b15 o16), (15, (.slice p21 el1.length q22)), (16, Bo (pr_f el1)), (17, u4 17), (18, Iv ((k : Int) + 1))], ?_, (Ext.gr E6 E24), ?_⟩, ?_⟩
      · first | rfl | (simp only [Int.natCast_add, Int.natCast_one]; rfl)
      · exact ⟨by omega, NoneTo.step hno (by assumption) (by simp_all)⟩
      · omega
    have c11' := c11
    (try simp only [icmp, bs] at c11')
    refine wp_exit ?_
    refine K2 _ _ ?_
    refine wr fun _ K30 => ?_
    refine ja (Iv (-1)) ?_
    refine wn K30 ?_
    refine wp_ret ?_
    refine ret_val (v := (Iv (-1))) (res_T rfl (slot rfl)) X8 ?_
    have x31 : (findI pr_f L_xs : Int) = (-1) := by first | exact findI_at hno (by assumption) (by simp_all) | exact findI_none hno (by omega)
    exact (by first | with_reducible rfl | rw [x31] | rfl)

/- slices.ContainsFunc[[][]int64,[]int64] -/
theorem c_slices_ContainsFunc_SS_int64_int64 (xs : Value) (L_xs : List (List Int)) (f : Value) (pr_f : List Int → Bool) (w : World) (hv_xs : Sl (RS RI 1) 1 w xs L_xs) (hv_f : ∃ fi fst cap, f = .func (.func fi) fst cap ∧ (∀ args w, (callFunc fi args).run Try.prog w = .ok (.enter fi args) w) ∧ ∀ (y0 : Value) (X0 : List Int) u, Ext w u → Sl RI 1 u y0 X0 → Gives Try.prog fi (fst ++ #[y0] ++ cap) u (fun v _ => v = .bool (pr_f X0))) : Gives Try.prog 41 #[xs, f] w (fun v w' => v = (Bo (L_xs.any pr_f))) := by
  have hlen_xs := Sl.len hv_xs; obtain ⟨p_xs, q_xs, rfl⟩ := Sl.shape hv_xs
  obtain ⟨f_f, s_f, c_f, rfl, hcal_f, hg_f⟩ := hv_f
  refine enter [(.slice p_xs L_xs.length q_xs), (.func (.func f_f) s_f c_f), Ud, Ud, Ud, Ud, Ud, Ud, Ud] Try.func41 rfl Try.ntmps41 rfl ?_
  refine wr fun _ K1 => ?_
  refine ja (Bo false) ?_
  refine wn K1 ?_
  refine wr fun _ K2 => ?_
  refine jm (.slice p_xs L_xs.length q_xs) ?_
  refine jm (.func (.func f_f) s_f c_f) ?_
  refine sd (does_call (args := #[(.slice p_xs L_xs.length q_xs), (.func (.func f_f) s_f c_f)]) cal61 (evs rfl) (c_slices_IndexFunc_SS_int64_int64 (.slice p_xs L_xs.length q_xs) L_xs (.func (.func f_f) s_f c_f) pr_f _ hv_xs ⟨_, _, _, rfl, hcal_f, fun y0 X0 u hu' ha0 => hg_f y0 X0 u (Ext.gr (Ext.refl w) hu') ha0⟩)) ?_; rintro _ w4 ⟨E3, rfl⟩
  have X5 := Ext.gr (Ext.refl w) E3
  refine fz ?_
  refine jj (does_icmp (p := findI pr_f L_xs) (q := 0) (.inr (.inr (.inr (.inr (.inr rfl))))) (ev rfl) (ev rfl)) ?_
  refine ja (Bo (icmp .geq (findI pr_f L_xs) 0)) ?_
  refine wn K2 ?_
  refine wp_ret ?_
  refine ret_val (v := (Bo (icmp .geq (findI pr_f L_xs) 0))) (res_T rfl (slot rfl)) X5 ?_
  have x6 : (L_xs.any pr_f) = (icmp .geq (findI pr_f L_xs) 0) := by first | with_reducible rfl | (simp only [findI_any]; done) | (simp [findI_any]; done) | rfl
  exact (by first | with_reducible rfl | rw [x6] | rfl)

/- slices.IndexFunc[[]int64,int64] -/
theorem c_slices_IndexFunc_int64_int64 (xs : Value) (L_xs : List Int) (f : Value) (pr_f : Int → Bool) (w : World) (hv_xs : Sl RI 1 w xs L_xs) (hv_f : ∃ fi fst cap, f = .func (.func fi) fst cap ∧ (∀ args w, (callFunc fi args).run Try.prog w = .ok (.enter fi args) w) ∧ ∀ (n0 : Int) u, Ext w u → Gives Try.prog fi (fst ++ #[.int .i64 n0] ++ cap) u (fun v _ => v = .bool (pr_f n0))) : Gives Try.prog 72 #[xs, f] w (fun v w' => v = (Iv (findI pr_f L_xs))) := by
  have hlen_xs := Sl.len hv_xs; obtain ⟨p_xs, q_xs, rfl⟩ := Sl.shape hv_xs
  obtain ⟨f_f, s_f, c_f, rfl, hcal_f, hg_f⟩ := hv_f
  refine enter [(.slice p_xs L_xs.length q_xs), (.func (.func f_f) s_f c_f), Ud, Ud, Ud, Ud, Ud, Ud, Ud, Ud, Ud, Ud, Ud, Ud, Ud, Ud, Ud, Ud, Ud] Try.func72 rfl Try.ntmps72 rfl ?_
  refine wr fun _ K1 => ?_
  refine ja (Iv 0) ?_
  refine wn K1 ?_
  refine ws fun _ K2 => ?_
  refine wr fun _ K3 => ?_
  refine jm (.slice p_xs L_xs.length q_xs) ?_
  refine jj (does_len_slice Try.underlying65 (ev rfl)) ?_
  refine jm (Iv 0) ?_
  refine wn K3 ?_
  refine wp_block ?_
  refine loop_ghost (σ := Nat) (fun k a w' => ∃ u4 : Nat → Value, a = fr [(.slice p_xs L_xs.length q_xs), (.func (.func f_f) s_f c_f), Ud, Ud, (u4 4), (u4 5), (.slice p_xs L_xs.length q_xs), (Iv (L_xs.length : Int)), (Iv (k : Int)), (u4 9), (u4 10), (u4 11), (u4 12), (u4 13), (u4 14), (u4 15), (u4 16), (u4 17), (u4 18)] ∧ Ext w w' ∧ (k ≤ L_xs.length ∧ NoneTo pr_f L_xs k)) (fun k => L_xs.length - k) 0 ?_ ?_
  · refine ⟨pk [(4, Iv 0)], rfl, Ext.refl _, ?_⟩
    exact ⟨Nat.zero_le _, NoneTo.zero⟩
  · rintro k a w5 ⟨u4, rfl, E6, ⟨hk, hno⟩⟩
    have X8 := Ext.gr (Ext.refl w) E6
    refine wr fun _ K9 => ?_
    refine jj (does_icmp (p := (k : Int)) (q := (L_xs.length : Int)) (.inr (.inr (.inl rfl))) (ev rfl) (ev rfl)) ?_
    refine wn K9 ?_
    refine ws fun _ K10 => ?_
    refine wp_cond_split (t := icmp .lss (k : Int) (L_xs.length : Int)) (ev rfl) (fun c11 => ?_) (fun c11 => ?_)
    · have c11' := c11
      (try simp only [icmp, bs] at c11')
      refine wp_skip (K10 _ _ ?_)
      refine ws fun _ K12 => ?_
      refine wp_block ?_
      refine wr fun _ K13 => ?_
      refine jm (Iv (k : Int)) ?_
      refine ja (Iv (k : Int)) ?_
      refine wn K13 ?_
      refine wr fun _ K14 => ?_
      refine jm (.func (.func f_f) s_f c_f) ?_
      refine jm (.slice p_xs L_xs.length q_xs) ?_
      refine jm (Iv (k : Int)) ?_
      obtain ⟨el1, hel1⟩ : ∃ e, L_xs[k]? = some e := ⟨_, List.getElem?_eq_getElem (by omega)⟩
      refine sd (does_indexSl (R := RI) (i := (k : Int)) (xs := L_xs) (e := el1) Try.underlying65 Try.sizeOf2 (ev rfl) (ev rfl) (Sl.ext hv_xs RI.mono X8) (by omega) hel1) ?_; rintro _ w5 ⟨b15, o16, _, rfl, hc18, rfl, rfl⟩
      refine fz ?_
      refine jj (does_load (u := (Iv el1)) (ev rfl) Try.isAgg2 (Cells.at hc18 0 rfl)) ?_
      refine sd (does_callf (args := #[(Iv el1)]) (ev rfl) hcal_f (evs rfl) (hg_f el1 _ X8 )) ?_; rintro _ w20 ⟨E19, rfl⟩
      have X21 := Ext.gr X8 E19
      refine fz ?_
      refine wn K14 ?_
      refine wp_cond_split (t := pr_f el1) (ev rfl) (fun c22 => ?_) (fun c22 => ?_)
      · have c22' := c22
        refine wr fun _ K23 => ?_
        refine jm (Iv (k : Int)) ?_
        refine ja (Iv (k : Int)) ?_
        refine wn K23 ?_
        refine wp_ret ?_
        dsimp only [Exit.then, Exit.inBlock]
        refine ret_val (v := (Iv (k : Int))) (res_T rfl (slot rfl)) X21 ?_
        try simp only [hel1] at c11 c22
        have x24 : (findI pr_f L_xs : Int) = (k : Int) := by first | exact findI_at hno (by assumption) (by simp_all) | exact findI_none hno (by omega)
        exact (by first | with_reducible rfl | rw [x24] | rfl)
      have c22' := c22
      refine wp_skip (K12 _ _ ?_)
      refine wp_region_lit ?_
      refine jj (does_iarith (p := (k : Int)) (q := 1) (r := (k : Int) + 1) (ev rfl) (ev rfl) (.inl ⟨rfl, (in_i64 (by omega) (by omega)).symm⟩)) ?_
      refine jm (Iv ((k : Int) + 1)) ?_
      refine wpList_nil ?_
      refine ⟨k + 1, ⟨pk [(4, u4 4), (5, Iv (k : Int)), (9, Bo (icmp .lss (k : Int) (L_xs.length : Int))), (10, Iv (k : Int)), (11, .func (.func f_f) s_f c_f), (12, (.slice p_xs L_xs.length q_xs)), (13, Iv (k : Int)), (14, Pt b15 o16), (15, Iv el1), (16, Bo (pr_f el1)), (17, u4 17), (18, Iv ((k : Int) + 1))], ?_, (Ext.gr E6 E19), ?_⟩, ?_⟩
      · first | rfl | (simp only [Int.natCast_add, Int.natCast_one]; rfl)
      · exact ⟨by omega, NoneTo.step hno (by assumption) (by simp_all)⟩
      · omega
    have c11' := c11
    (try simp only [icmp, bs] at c11')
    refine wp_exit ?_
    refine K2 _ _ ?_
    refine wr fun _ K25 => ?_
    refine ja (Iv (-1)) ?_
    refine wn K25 ?_
    refine wp_ret ?_
    refine ret_val (v := (Iv (-1))) (res_T rfl (slot rfl)) X8 ?_
    have x26 : (findI pr_f L_xs : Int) = (-1) := by first | exact findI_at hno (by assumption) (by simp_all) | exact findI_none hno (by omega)
    exact (by first | with_reducible rfl | rw [x26] | rfl)

/- slices.ContainsFunc[[]int64,int64] -/
theorem c_slices_ContainsFunc_int64_int64 (xs : Value) (L_xs : List Int) (f : Value) (pr_f : Int → Bool) (w : World) (hv_xs : Sl RI 1 w xs L_xs) (hv_f : ∃ fi fst cap, f = .func (.func fi) fst cap ∧ (∀ args w, (callFunc fi args).run Try.prog w = .ok (.enter fi args) w) ∧ ∀ (n0 : Int) u, Ext w u → Gives Try.prog fi (fst ++ #[.int .i64 n0] ++ cap) u (fun v _ => v = .bool (pr_f n0))) : Gives Try.prog 62 #[xs, f] w (fun v w' => v = (Bo (L_xs.any pr_f))) := by
  have hlen_xs := Sl.len hv_xs; obtain ⟨p_xs, q_xs, rfl⟩ := Sl.shape hv_xs
  obtain ⟨f_f, s_f, c_f, rfl, hcal_f, hg_f⟩ := hv_f
  refine enter [(.slice p_xs L_xs.length q_xs), (.func (.func f_f) s_f c_f), Ud, Ud, Ud, Ud, Ud, Ud, Ud] Try.func62 rfl Try.ntmps62 rfl ?_
  refine wr fun _ K1 => ?_
  refine ja (Bo false) ?_
  refine wn K1 ?_
  refine wr fun _ K2 => ?_
  refine jm (.slice p_xs L_xs.length q_xs) ?_
  refine jm (.func (.func f_f) s_f c_f) ?_
  refine sd (does_call (args := #[(.slice p_xs L_xs.length q_xs), (.func (.func f_f) s_f c_f)]) cal72 (evs rfl) (c_slices_IndexFunc_int64_int64 (.slice p_xs L_xs.length q_xs) L_xs (.func (.func f_f) s_f c_f) pr_f _ hv_xs ⟨_, _, _, rfl, hcal_f, fun n0 u hu'  => hg_f n0 u (Ext.gr (Ext.refl w) hu') ⟩)) ?_; rintro _ w4 ⟨E3, rfl⟩
  have X5 := Ext.gr (Ext.refl w) E3
  refine fz ?_
  refine jj (does_icmp (p := findI pr_f L_xs) (q := 0) (.inr (.inr (.inr (.inr (.inr rfl))))) (ev rfl) (ev rfl)) ?_
  refine ja (Bo (icmp .geq (findI pr_f L_xs) 0)) ?_
  refine wn K2 ?_
  refine wp_ret ?_
  refine ret_val (v := (Bo (icmp .geq (findI pr_f L_xs) 0))) (res_T rfl (slot rfl)) X5 ?_
  have x6 : (L_xs.any pr_f) = (icmp .geq (findI pr_f L_xs) 0) := by first | with_reducible rfl | (simp only [findI_any]; done) | (simp [findI_any]; done) | rfl
  exact (by first | with_reducible rfl | rw [x6] | rfl)

/- impl.isTriangle$1 -/
theorem c_impl_isTriangle_1 (x_ : Int) (pn_b : Nat) (pn_o : Nat) (n_ : Int) (w : World) (hc_pn : Cells w pn_b pn_o [(Iv n_)]) : Gives Try.prog 63 #[(Iv x_), (Pt pn_b pn_o)] w (fun v w' => v = (Bo (!inI x_ 0 (IntKind.i64.wrap (n_ - 1))))) := by
  refine enter [(Iv x_), (Pt pn_b pn_o), Ud, Ud, Ud, Ud, Ud, Ud, Ud] Try.func63 rfl Try.ntmps63 rfl ?_
  refine wr fun _ K1 => ?_
  refine ja (Bo false) ?_
  refine wn K1 ?_
  refine wr fun _ K2 => ?_
  refine jm (Iv x_) ?_
  refine jj (does_load (u := (Iv n_)) (ev rfl) Try.isAgg3 (Cells.at hc_pn 0 rfl)) ?_
  refine jj (does_iarith (p := n_) (q := 1) (r := IntKind.i64.wrap (n_ - 1)) (ev rfl) (ev rfl) (.inr (.inl ⟨rfl, rfl⟩))) ?_
  refine sd (does_call (args := #[(Iv x_), (Iv 0), (Iv (IntKind.i64.wrap (n_ - 1)))]) cal38 (evs rfl) (c_impl_in x_ 0 (IntKind.i64.wrap (n_ - 1)) _)) ?_; rintro _ w4 ⟨E3, rfl⟩
  have X5 := Ext.gr (Ext.refl w) E3
  refine fz ?_
  refine jj (does_not (ev rfl)) ?_
  refine ja (Bo (!(inI x_ 0 (IntKind.i64.wrap (n_ - 1))))) ?_
  refine wn K2 ?_
  refine wp_ret ?_
  refine ret_val (v := (Bo (!(inI x_ 0 (IntKind.i64.wrap (n_ - 1)))))) (res_T rfl (slot rfl)) X5 ?_
  have x6 : (!inI x_ 0 (IntKind.i64.wrap (n_ - 1))) = (!(inI x_ 0 (IntKind.i64.wrap (n_ - 1)))) := by first | with_reducible rfl | (simp only []; done) | (simp []; done) | rfl
  exact (by first | with_reducible rfl | rw [x6] | rfl)

/- impl.isTriangle -/
theorem c_impl_isTriangle (t_ : Value) (L_t_ : List Int) (n_ : Int) (w : World) (hv_t_ : Sl RI 1 w t_ L_t_) : Gives Try.prog 43 #[t_, (Iv n_)] w (fun v w' => v = (Bo (triOk n_ L_t_))) := by
  have hlen_t_ := Sl.len hv_t_; obtain ⟨p_t_, q_t_, rfl⟩ := Sl.shape hv_t_
  refine enter [(.slice p_t_ L_t_.length q_t_), (Iv n_), Ud, Ud, Ud, Ud, Ud, Ud, Ud, Ud, Ud, Ud, Ud, Ud, Ud, Ud, Ud, Ud, Ud, Ud, Ud, Ud, Ud, Ud, Ud, Ud, Ud, Ud, Ud, Ud, Ud, Ud, Ud, Ud, Ud, Ud, Ud, Ud, Ud] Try.func43 rfl Try.ntmps43 rfl ?_
  refine wr fun _ K1 => ?_
  refine sd (does_box (u := (Iv n_)) (ev rfl)) ?_; rintro _ w6 ⟨b2, rfl, hb3, hB4, E5⟩
  change Blk _ _ [(Iv n_)] at hB4
  have X8 := Ext.gr (Ext.refl w) E5
  refine fz ?_
  refine ja (Bo false) ?_
  refine wn K1 ?_
  refine ws fun _ K9 => ?_
  refine ws fun _ K10 => ?_
  obtain ⟨β1, hβ1⟩ : ∃ b : Bool, b = (icmp .neq (L_t_.length : Int) 3) := ⟨_, rfl⟩
  obtain ⟨el1, hel1⟩ := exists_el (0 : Int) L_t_ 0
  obtain ⟨el2, hel2⟩ := exists_el (0 : Int) L_t_ 1
  obtain ⟨β2, hβ2⟩ : ∃ b : Bool, b = (β1 || (icmp .eql el1 el2)) := ⟨_, rfl⟩
  obtain ⟨el3, hel3⟩ := exists_el (0 : Int) L_t_ 2
  obtain ⟨β3, hβ3⟩ : ∃ b : Bool, b = (β2 || (icmp .eql el2 el3)) := ⟨_, rfl⟩
  obtain ⟨β4, hβ4⟩ : ∃ b : Bool, b = (β3 || (icmp .eql el3 el1)) := ⟨_, rfl⟩
  refine region_draw (
    [Fact.pure [] (fun v => v = (.slice p_t_ L_t_.length q_t_)),
    Fact.pure [5] (fun v => v = (Iv (L_t_.length : Int))),
    Fact.pure [6] (fun v => v = (Bo β1)),
    Fact.pure [7] (fun v => v = (Bo β1)),
    Fact.pure [8] (fun v => β1 = false → v = (.slice p_t_ L_t_.length q_t_)),
    Fact.mem [9, 8] (fun v w' => β1 = false → PtrR RI w' v el1) (by intro v w1 w2 hx h; exact fun hg1 => (h hg1).ext RI.mono hx),
    Fact.pure [10, 8] (fun v => β1 = false → v = (Iv el1)),
    Fact.pure [8] (fun v => β1 = false → v = (.slice p_t_ L_t_.length q_t_)),
    Fact.mem [12, 8] (fun v w' => β1 = false → PtrR RI w' v el2) (by intro v w1 w2 hx h; exact fun hg1 => (h hg1).ext RI.mono hx),
    Fact.pure [13, 8] (fun v => β1 = false → v = (Iv el2)),
    Fact.pure [11, 14, 8] (fun v => β1 = false → v = (Bo (icmp .eql el1 el2))),
    Fact.pure [8, 15] (fun v => v = (Bo β2)),
    Fact.pure [16] (fun v => v = (Bo β2)),
    Fact.pure [17] (fun v => β2 = false → v = (.slice p_t_ L_t_.length q_t_)),
    Fact.mem [18, 17] (fun v w' => β2 = false → PtrR RI w' v el2) (by intro v w1 w2 hx h; exact fun hg1 => (h hg1).ext RI.mono hx),
    Fact.pure [19, 17] (fun v => β2 = false → v = (Iv el2)),
    Fact.pure [17] (fun v => β2 = false → v = (.slice p_t_ L_t_.length q_t_)),
    Fact.mem [21, 17] (fun v w' => β2 = false → PtrR RI w' v el3) (by intro v w1 w2 hx h; exact fun hg1 => (h hg1).ext RI.mono hx),
    Fact.pure [22, 17] (fun v => β2 = false → v = (Iv el3)),
    Fact.pure [20, 23, 17] (fun v => β2 = false → v = (Bo (icmp .eql el2 el3))),
    Fact.pure [17, 24] (fun v => v = (Bo β3)),
    Fact.pure [25] (fun v => v = (Bo β3)),
    Fact.pure [26] (fun v => β3 = false → v = (.slice p_t_ L_t_.length q_t_)),
    Fact.mem [27, 26] (fun v w' => β3 = false → PtrR RI w' v el3) (by intro v w1 w2 hx h; exact fun hg1 => (h hg1).ext RI.mono hx),
    Fact.pure [28, 26] (fun v => β3 = false → v = (Iv el3)),
    Fact.pure [26] (fun v => β3 = false → v = (.slice p_t_ L_t_.length q_t_)),
    Fact.mem [30, 26] (fun v w' => β3 = false → PtrR RI w' v el1) (by intro v w1 w2 hx h; exact fun hg1 => (h hg1).ext RI.mono hx),
    Fact.pure [31, 26] (fun v => β3 = false → v = (Iv el1)),
    Fact.pure [29, 32, 26] (fun v => β3 = false → v = (Bo (icmp .eql el3 el1))),
    Fact.pure [26, 33] (fun v => v = (Bo β4))]) mixed (by kernel_rfl) (by intro _ _ d _ _ h; cases d <;> exact h) ?_
  obtain ⟨w11, hw13⟩ : ∃ w', w' = World.drew w6 := ⟨_, rfl⟩; rw [← hw13]; have E12 : Ext w6 w11 := by rw [hw13]; exact Ext.draw _
  clear hw13
  have X14 := Ext.gr X8 E12
  refine R_p (fun u hu _ => does_move (u := (.slice p_t_ L_t_.length q_t_)) (ev rfl)) fun v15 => ?_
  refine R_p (fun u hu hF => ?_) fun v16 => ?_
  · have h5_ : v15 = (.slice p_t_ L_t_.length q_t_) := hF.1
    clear hF; subst h5_
    exact does_len_slice Try.underlying65 (ev rfl)
  refine R_d (fun u hu hF => ?_) (fun v17 => ?_)
  · have h6_ : v16 = (Iv (L_t_.length : Int)) := hF.1
    clear hF
    refine doesG_un rfl ?_
    obtain rfl := h6_
    refine (does_icmp (p := (L_t_.length : Int)) (q := 3) (.inr (.inl rfl)) (ev rfl) (ev rfl)).mono ?_; rintro _ _ ⟨rfl, rfl⟩
    exact ⟨(by first | rfl | (show _ = _; simp only [hβ1]; done) | (show _ = _; simp only [hβ1]; rfl)), Ext.refl _⟩
  refine R_p (fun u hu hF => ?_) fun v18 => ?_
  · have h7_ : v17 = (Bo β1) := hF.1
    clear hF; subst h7_
    exact does_move (u := (Bo β1)) (ev rfl)
  refine R_d (fun u hu hF => ?_) (fun v19 => ?_)
  · have h8_ : v18 = (Bo β1) := hF.1
    clear hF
    obtain rfl := h8_
    refine doesG_g (b := β1) rfl (yld rfl rfl) (fun hg1 => ?_) (fun hc => ⟨fun hg1 => absurd hg1 hc, Ext.refl _⟩)
    refine (does_move (u := (.slice p_t_ L_t_.length q_t_)) (ev rfl)).mono ?_; rintro _ _ ⟨rfl, rfl⟩
    exact ⟨fun _ => rfl, Ext.refl _⟩
  refine R_d (fun u hu hF => ?_) (fun v20 => ?_)
  · have h9_ : β1 = false → v19 = (.slice p_t_ L_t_.length q_t_) := hF.1
    have h8_ : v18 = (Bo β1) := hF.2.1
    clear hF
    obtain rfl := h8_
    refine doesG_g (b := β1) rfl (yld rfl rfl) (fun hg1 => ?_) (fun hc => ⟨fun hg1 => absurd hg1 hc, Ext.refl _⟩)
    obtain rfl := h9_ hg1
    refine (does_indexSl (R := RI) (i := 0) (xs := L_t_) (e := el1) Try.underlying65 Try.sizeOf2 (ev rfl) (ev rfl) (Sl.ext (Sl.ext hv_t_ RI.mono (Ext.gr X8 E12)) RI.mono hu) (by first | omega | (simp only [hβ1, icmp, Bool.or_eq_false_iff, Bool.not_eq_false', Bool.not_eq_true', decide_eq_true_eq, decide_eq_false_iff_not, bne_eq_false_iff_eq] at hg1; omega) | (simp only [hβ1, icmp, Bool.or_eq_false_iff, Bool.not_eq_false', Bool.not_eq_true', decide_eq_true_eq, decide_eq_false_iff_not, bne_eq_false_iff_eq] at hg1 hg2; omega)) (hel1 (by first | omega | (simp only [hβ1, icmp, Bool.or_eq_false_iff, Bool.not_eq_false', Bool.not_eq_true', bne_eq_false_iff_eq] at hg1; omega)))).mono ?_; rintro v u' ⟨b, of, cs, hv, hc, hR, hu'⟩; subst hu'
    exact ⟨fun _ => ⟨b, of, cs, hv, hc, hR⟩, Ext.refl _⟩
  refine R_d (fun u hu hF => ?_) (fun v21 => ?_)
  · have h10_ : β1 = false → PtrR RI u v20 el1 := hF.1
    have h8_ : v18 = (Bo β1) := hF.2.1
    clear hF
    obtain rfl := h8_
    refine doesG_g (b := β1) rfl (yld rfl rfl) (fun hg1 => ?_) (fun hc => ⟨fun hg1 => absurd hg1 hc, Ext.refl _⟩)
    obtain ⟨b10_, o10_, _, rfl, hc10_, rfl⟩ := h10_ hg1
    refine (does_load (u := (Iv el1)) (ev rfl) Try.isAgg2 (Cells.at hc10_ 0 rfl)).mono ?_; rintro _ _ ⟨rfl, rfl⟩
    exact ⟨fun _ => rfl, Ext.refl _⟩
  refine R_d (fun u hu hF => ?_) (fun v22 => ?_)
  · have h8_ : v18 = (Bo β1) := hF.1
    clear hF
    obtain rfl := h8_
    refine doesG_g (b := β1) rfl (yld rfl rfl) (fun hg1 => ?_) (fun hc => ⟨fun hg1 => absurd hg1 hc, Ext.refl _⟩)
    refine (does_move (u := (.slice p_t_ L_t_.length q_t_)) (ev rfl)).mono ?_; rintro _ _ ⟨rfl, rfl⟩
    exact ⟨fun _ => rfl, Ext.refl _⟩
  refine R_d (fun u hu hF => ?_) (fun v23 => ?_)
  · have h12_ : β1 = false → v22 = (.slice p_t_ L_t_.length q_t_) := hF.1
    have h8_ : v18 = (Bo β1) := hF.2.1
    clear hF
    obtain rfl := h8_
    refine doesG_g (b := β1) rfl (yld rfl rfl) (fun hg1 => ?_) (fun hc => ⟨fun hg1 => absurd hg1 hc, Ext.refl _⟩)
    obtain rfl := h12_ hg1
    refine (does_indexSl (R := RI) (i := 1) (xs := L_t_) (e := el2) Try.underlying65 Try.sizeOf2 (ev rfl) (ev rfl) (Sl.ext (Sl.ext hv_t_ RI.mono (Ext.gr X8 E12)) RI.mono hu) (by first | omega | (simp only [hβ1, icmp, Bool.or_eq_false_iff, Bool.not_eq_false', Bool.not_eq_true', decide_eq_true_eq, decide_eq_false_iff_not, bne_eq_false_iff_eq] at hg1; omega) | (simp only [hβ1, icmp, Bool.or_eq_false_iff, Bool.not_eq_false', Bool.not_eq_true', decide_eq_true_eq, decide_eq_false_iff_not, bne_eq_false_iff_eq] at hg1 hg2; omega)) (hel2 (by first | omega | (simp only [hβ1, icmp, Bool.or_eq_false_iff, Bool.not_eq_false', Bool.not_eq_true', bne_eq_false_iff_eq] at hg1; omega)))).mono ?_; rintro v u' ⟨b, of, cs, hv, hc, hR, hu'⟩; subst hu'
    exact ⟨fun _ => ⟨b, of, cs, hv, hc, hR⟩, Ext.refl _⟩
  refine R_d (fun u hu hF => ?_) (fun v24 => ?_)
  · have h13_ : β1 = false → PtrR RI u v23 el2 := hF.1
    have h8_ : v18 = (Bo β1) := hF.2.1
    clear hF
    obtain rfl := h8_
    refine doesG_g (b := β1) rfl (yld rfl rfl) (fun hg1 => ?_) (fun hc => ⟨fun hg1 => absurd hg1 hc, Ext.refl _⟩)
    obtain ⟨b13_, o13_, _, rfl, hc13_, rfl⟩ := h13_ hg1
    refine (does_load (u := (Iv el2)) (ev rfl) Try.isAgg2 (Cells.at hc13_ 0 rfl)).mono ?_; rintro _ _ ⟨rfl, rfl⟩
    exact ⟨fun _ => rfl, Ext.refl _⟩
  refine R_d (fun u hu hF => ?_) (fun v25 => ?_)
  · have h11_ : β1 = false → v21 = (Iv el1) := hF.1
    have h14_ : β1 = false → v24 = (Iv el2) := hF.2.1
    have h8_ : v18 = (Bo β1) := hF.2.2.1
    clear hF
    obtain rfl := h8_
    refine doesG_g (b := β1) rfl (yld rfl rfl) (fun hg1 => ?_) (fun hc => ⟨fun hg1 => absurd hg1 hc, Ext.refl _⟩)
    obtain rfl := h11_ hg1
    obtain rfl := h14_ hg1
    refine (does_icmp (p := el1) (q := el2) (.inl rfl) (ev rfl) (ev rfl)).mono ?_; rintro _ _ ⟨rfl, rfl⟩
    exact ⟨fun _ => rfl, Ext.refl _⟩
  refine R_d (fun u hu hF => ?_) (fun v26 => ?_)
  · have h8_ : v18 = (Bo β1) := hF.1
    have h15_ : β1 = false → v25 = (Bo (icmp .eql el1 el2)) := hF.2.1
    clear hF
    refine doesG_un rfl ?_
    skip
    obtain rfl := h8_
    refine (does_pick (b := β1) (u := (Bo true)) (v := v25) (ev rfl) (ev rfl) (ev rfl)).mono ?_; rintro _ _ ⟨rfl, rfl⟩; refine ⟨?_, Ext.refl _⟩; rw [hβ2]; skip
    cases hbb : β1
    all_goals first | (show _ = _; simp only [↓reduceIte, Bool.true_and, Bool.false_and, Bool.true_or, Bool.false_or, Bool.false_eq_true]; done) | (have e_ := h15_ hbb; subst e_; show _ = _; simp only [↓reduceIte, Bool.true_and, Bool.false_and, Bool.true_or, Bool.false_or, Bool.false_eq_true]; done) | rfl | (have e_ := h15_ hbb; subst e_; rfl) | (simp [hbb] at h15_ ⊢; first | done | rfl | (subst h15_; rfl) | simp_all) | (simp [hbb] at h15_ ⊢; done)
  refine R_p (fun u hu hF => ?_) fun v27 => ?_
  · have h16_ : v26 = (Bo β2) := hF.1
    clear hF; subst h16_
    exact does_move (u := (Bo β2)) (ev rfl)
  refine R_d (fun u hu hF => ?_) (fun v28 => ?_)
  · have h17_ : v27 = (Bo β2) := hF.1
    clear hF
    obtain rfl := h17_
    refine doesG_g (b := β2) rfl (yld rfl rfl) (fun hg1 => ?_) (fun hc => ⟨fun hg1 => absurd hg1 hc, Ext.refl _⟩)
    refine (does_move (u := (.slice p_t_ L_t_.length q_t_)) (ev rfl)).mono ?_; rintro _ _ ⟨rfl, rfl⟩
    exact ⟨fun _ => rfl, Ext.refl _⟩
  refine R_d (fun u hu hF => ?_) (fun v29 => ?_)
  · have h18_ : β2 = false → v28 = (.slice p_t_ L_t_.length q_t_) := hF.1
    have h17_ : v27 = (Bo β2) := hF.2.1
    clear hF
    obtain rfl := h17_
    refine doesG_g (b := β2) rfl (yld rfl rfl) (fun hg1 => ?_) (fun hc => ⟨fun hg1 => absurd hg1 hc, Ext.refl _⟩)
    obtain rfl := h18_ hg1
    refine (does_indexSl (R := RI) (i := 1) (xs := L_t_) (e := el2) Try.underlying65 Try.sizeOf2 (ev rfl) (ev rfl) (Sl.ext (Sl.ext hv_t_ RI.mono (Ext.gr X8 E12)) RI.mono hu) (by first | omega | (simp only [hβ1, hβ2, icmp, Bool.or_eq_false_iff, Bool.not_eq_false', Bool.not_eq_true', decide_eq_true_eq, decide_eq_false_iff_not, bne_eq_false_iff_eq] at hg1; omega) | (simp only [hβ1, hβ2, icmp, Bool.or_eq_false_iff, Bool.not_eq_false', Bool.not_eq_true', decide_eq_true_eq, decide_eq_false_iff_not, bne_eq_false_iff_eq] at hg1 hg2; omega)) (hel2 (by first | omega | (simp only [hβ1, hβ2, icmp, Bool.or_eq_false_iff, Bool.not_eq_false', Bool.not_eq_true', bne_eq_false_iff_eq] at hg1; omega)))).mono ?_; rintro v u' ⟨b, of, cs, hv, hc, hR, hu'⟩; subst hu'
    exact ⟨fun _ => ⟨b, of, cs, hv, hc, hR⟩, Ext.refl _⟩
  refine R_d (fun u hu hF => ?_) (fun v30 => ?_)
  · have h19_ : β2 = false → PtrR RI u v29 el2 := hF.1
    have h17_ : v27 = (Bo β2) := hF.2.1
    clear hF
    obtain rfl := h17_
    refine doesG_g (b := β2) rfl (yld rfl rfl) (fun hg1 => ?_) (fun hc => ⟨fun hg1 => absurd hg1 hc, Ext.refl _⟩)
    obtain ⟨b19_, o19_, _, rfl, hc19_, rfl⟩ := h19_ hg1
    refine (does_load (u := (Iv el2)) (ev rfl) Try.isAgg2 (Cells.at hc19_ 0 rfl)).mono ?_; rintro _ _ ⟨rfl, rfl⟩
    exact ⟨fun _ => rfl, Ext.refl _⟩
  refine R_d (fun u hu hF => ?_) (fun v31 => ?_)
  · have h17_ : v27 = (Bo β2) := hF.1
    clear hF
    obtain rfl := h17_
    refine doesG_g (b := β2) rfl (yld rfl rfl) (fun hg1 => ?_) (fun hc => ⟨fun hg1 => absurd hg1 hc, Ext.refl _⟩)
    refine (does_move (u := (.slice p_t_ L_t_.length q_t_)) (ev rfl)).mono ?_; rintro _ _ ⟨rfl, rfl⟩
    exact ⟨fun _ => rfl, Ext.refl _⟩
  refine R_d (fun u hu hF => ?_) (fun v32 => ?_)
  · have h21_ : β2 = false → v31 = (.slice p_t_ L_t_.length q_t_) := hF.1
    have h17_ : v27 = (Bo β2) := hF.2.1
    clear hF
    obtain rfl := h17_
    refine doesG_g (b := β2) rfl (yld rfl rfl) (fun hg1 => ?_) (fun hc => ⟨fun hg1 => absurd hg1 hc, Ext.refl _⟩)
    obtain rfl := h21_ hg1
    refine (does_indexSl (R := RI) (i := 2) (xs := L_t_) (e := el3) Try.underlying65 Try.sizeOf2 (ev rfl) (ev rfl) (Sl.ext (Sl.ext hv_t_ RI.mono (Ext.gr X8 E12)) RI.mono hu) (by first | omega | (simp only [hβ1, hβ2, icmp, Bool.or_eq_false_iff, Bool.not_eq_false', Bool.not_eq_true', decide_eq_true_eq, decide_eq_false_iff_not, bne_eq_false_iff_eq] at hg1; omega) | (simp only [hβ1, hβ2, icmp, Bool.or_eq_false_iff, Bool.not_eq_false', Bool.not_eq_true', decide_eq_true_eq, decide_eq_false_iff_not, bne_eq_false_iff_eq] at hg1 hg2; omega)) (hel3 (by first | omega | (simp only [hβ1, hβ2, icmp, Bool.or_eq_false_iff, Bool.not_eq_false', Bool.not_eq_true', bne_eq_false_iff_eq] at hg1; omega)))).mono ?_; rintro v u' ⟨b, of, cs, hv, hc, hR, hu'⟩; subst hu'
    exact ⟨fun _ => ⟨b, of, cs, hv, hc, hR⟩, Ext.refl _⟩
  refine R_d (fun u hu hF => ?_) (fun v33 => ?_)
  · have h22_ : β2 = false → PtrR RI u v32 el3 := hF.1
    have h17_ : v27 = (Bo β2) := hF.2.1
    clear hF
    obtain rfl := h17_
    refine doesG_g (b := β2) rfl (yld rfl rfl) (fun hg1 => ?_) (fun hc => ⟨fun hg1 => absurd hg1 hc, Ext.refl _⟩)
    obtain ⟨b22_, o22_, _, rfl, hc22_, rfl⟩ := h22_ hg1
    refine (does_load (u := (Iv el3)) (ev rfl) Try.isAgg2 (Cells.at hc22_ 0 rfl)).mono ?_; rintro _ _ ⟨rfl, rfl⟩
    exact ⟨fun _ => rfl, Ext.refl _⟩
  refine R_d (fun u hu hF => ?_) (fun v34 => ?_)
  · have h20_ : β2 = false → v30 = (Iv el2) := hF.1
    have h23_ : β2 = false → v33 = (Iv el3) := hF.2.1
    have h17_ : v27 = (Bo β2) := hF.2.2.1
    clear hF
    obtain rfl := h17_
    refine doesG_g (b := β2) rfl (yld rfl rfl) (fun hg1 => ?_) (fun hc => ⟨fun hg1 => absurd hg1 hc, Ext.refl _⟩)
    obtain rfl := h20_ hg1
    obtain rfl := h23_ hg1
    refine (does_icmp (p := el2) (q := el3) (.inl rfl) (ev rfl) (ev rfl)).mono ?_; rintro _ _ ⟨rfl, rfl⟩
    exact ⟨fun _ => rfl, Ext.refl _⟩
  refine R_d (fun u hu hF => ?_) (fun v35 => ?_)
  · have h17_ : v27 = (Bo β2) := hF.1
    have h24_ : β2 = false → v34 = (Bo (icmp .eql el2 el3)) := hF.2.1
    clear hF
    refine doesG_un rfl ?_
    skip
    obtain rfl := h17_
    refine (does_pick (b := β2) (u := (Bo true)) (v := v34) (ev rfl) (ev rfl) (ev rfl)).mono ?_; rintro _ _ ⟨rfl, rfl⟩; refine ⟨?_, Ext.refl _⟩; rw [hβ3]; skip
    cases hbb : β2
    all_goals first | (show _ = _; simp only [↓reduceIte, Bool.true_and, Bool.false_and, Bool.true_or, Bool.false_or, Bool.false_eq_true]; done) | (have e_ := h24_ hbb; subst e_; show _ = _; simp only [↓reduceIte, Bool.true_and, Bool.false_and, Bool.true_or, Bool.false_or, Bool.false_eq_true]; done) | rfl | (have e_ := h24_ hbb; subst e_; rfl) | (simp [hbb] at h24_ ⊢; first | done | rfl | (subst h24_; rfl) | simp_all) | (simp [hbb] at h24_ ⊢; done)
  refine R_p (fun u hu hF => ?_) fun v36 => ?_
  · have h25_ : v35 = (Bo β3) := hF.1
    clear hF; subst h25_
    exact does_move (u := (Bo β3)) (ev rfl)
  refine R_d (fun u hu hF => ?_) (fun v37 => ?_)
  · have h26_ : v36 = (Bo β3) := hF.1
    clear hF
    obtain rfl := h26_
    refine doesG_g (b := β3) rfl (yld rfl rfl) (fun hg1 => ?_) (fun hc => ⟨fun hg1 => absurd hg1 hc, Ext.refl _⟩)
    refine (does_move (u := (.slice p_t_ L_t_.length q_t_)) (ev rfl)).mono ?_; rintro _ _ ⟨rfl, rfl⟩
    exact ⟨fun _ => rfl, Ext.refl _⟩
  refine R_d (fun u hu hF => ?_) (fun v38 => ?_)
  · have h27_ : β3 = false → v37 = (.slice p_t_ L_t_.length q_t_) := hF.1
    have h26_ : v36 = (Bo β3) := hF.2.1
    clear hF
    obtain rfl := h26_
    refine doesG_g (b := β3) rfl (yld rfl rfl) (fun hg1 => ?_) (fun hc => ⟨fun hg1 => absurd hg1 hc, Ext.refl _⟩)
    obtain rfl := h27_ hg1
    refine (does_indexSl (R := RI) (i := 2) (xs := L_t_) (e := el3) Try.underlying65 Try.sizeOf2 (ev rfl) (ev rfl) (Sl.ext (Sl.ext hv_t_ RI.mono (Ext.gr X8 E12)) RI.mono hu) (by first | omega | (simp only [hβ1, hβ2, hβ3, icmp, Bool.or_eq_false_iff, Bool.not_eq_false', Bool.not_eq_true', decide_eq_true_eq, decide_eq_false_iff_not, bne_eq_false_iff_eq] at hg1; omega) | (simp only [hβ1, hβ2, hβ3, icmp, Bool.or_eq_false_iff, Bool.not_eq_false', Bool.not_eq_true', decide_eq_true_eq, decide_eq_false_iff_not, bne_eq_false_iff_eq] at hg1 hg2; omega)) (hel3 (by first | omega | (simp only [hβ1, hβ2, hβ3, icmp, Bool.or_eq_false_iff, Bool.not_eq_false', Bool.not_eq_true', bne_eq_false_iff_eq] at hg1; omega)))).mono ?_; rintro v u' ⟨b, of, cs, hv, hc, hR, hu'⟩; subst hu'
    exact ⟨fun _ => ⟨b, of, cs, hv, hc, hR⟩, Ext.refl _⟩
  refine R_d (fun u hu hF => ?_) (fun v39 => ?_)
  · have h28_ : β3 = false → PtrR RI u v38 el3 := hF.1
    have h26_ : v36 = (Bo β3) := hF.2.1
    clear hF
    obtain rfl := h26_
    refine doesG_g (b := β3) rfl (yld rfl rfl) (fun hg1 => ?_) (fun hc => ⟨fun hg1 => absurd hg1 hc, Ext.refl _⟩)
    obtain ⟨b28_, o28_, _, rfl, hc28_, rfl⟩ := h28_ hg1
    refine (does_load (u := (Iv el3)) (ev rfl) Try.isAgg2 (Cells.at hc28_ 0 rfl)).mono ?_; rintro _ _ ⟨rfl, rfl⟩
    exact ⟨fun _ => rfl, Ext.refl _⟩
  refine R_d (fun u hu hF => ?_) (fun v40 => ?_)
  · have h26_ : v36 = (Bo β3) := hF.1
    clear hF
    obtain rfl := h26_
    refine doesG_g (b := β3) rfl (yld rfl rfl) (fun hg1 => ?_) (fun hc => ⟨fun hg1 => absurd hg1 hc, Ext.refl _⟩)
    refine (does_move (u := (.slice p_t_ L_t_.length q_t_)) (ev rfl)).mono ?_; rintro _ _ ⟨rfl, rfl⟩
    exact ⟨fun _ => rfl, Ext.refl _⟩
  refine R_d (fun u hu hF => ?_) (fun v41 => ?_)
  · have h30_ : β3 = false → v40 = (.slice p_t_ L_t_.length q_t_) := hF.1
    have h26_ : v36 = (Bo β3) := hF.2.1
    clear hF
    obtain rfl := h26_
    refine doesG_g (b := β3) rfl (yld rfl rfl) (fun hg1 => ?_) (fun hc => ⟨fun hg1 => absurd hg1 hc, Ext.refl _⟩)
    obtain rfl := h30_ hg1
    refine (does_indexSl (R := RI) (i := 0) (xs := L_t_) (e := el1) Try.underlying65 Try.sizeOf2 (ev rfl) (ev rfl) (Sl.ext (Sl.ext hv_t_ RI.mono (Ext.gr X8 E12)) RI.mono hu) (by first | omega | (simp only [hβ1, hβ2, hβ3, icmp, Bool.or_eq_false_iff, Bool.not_eq_false', Bool.not_eq_true', decide_eq_true_eq, decide_eq_false_iff_not, bne_eq_false_iff_eq] at hg1; omega) | (simp only [hβ1, hβ2, hβ3, icmp, Bool.or_eq_false_iff, Bool.not_eq_false', Bool.not_eq_true', decide_eq_true_eq, decide_eq_false_iff_not, bne_eq_false_iff_eq] at hg1 hg2; omega)) (hel1 (by first | omega | (simp only [hβ1, hβ2, hβ3, icmp, Bool.or_eq_false_iff, Bool.not_eq_false', Bool.not_eq_true', bne_eq_false_iff_eq] at hg1; omega)))).mono ?_; rintro v u' ⟨b, of, cs, hv, hc, hR, hu'⟩; subst hu'
    exact ⟨fun _ => ⟨b, of, cs, hv, hc, hR⟩, Ext.refl _⟩
  refine R_d (fun u hu hF => ?_) (fun v42 => ?_)
  · have h31_ : β3 = false → PtrR RI u v41 el1 := hF.1
    have h26_ : v36 = (Bo β3) := hF.2.1
    clear hF
    obtain rfl := h26_
    refine doesG_g (b := β3) rfl (yld rfl rfl) (fun hg1 => ?_) (fun hc => ⟨fun hg1 => absurd hg1 hc, Ext.refl _⟩)
    obtain ⟨b31_, o31_, _, rfl, hc31_, rfl⟩ := h31_ hg1
    refine (does_load (u := (Iv el1)) (ev rfl) Try.isAgg2 (Cells.at hc31_ 0 rfl)).mono ?_; rintro _ _ ⟨rfl, rfl⟩
    exact ⟨fun _ => rfl, Ext.refl _⟩
  refine R_d (fun u hu hF => ?_) (fun v43 => ?_)
  · have h29_ : β3 = false → v39 = (Iv el3) := hF.1
    have h32_ : β3 = false → v42 = (Iv el1) := hF.2.1
    have h26_ : v36 = (Bo β3) := hF.2.2.1
    clear hF
    obtain rfl := h26_
    refine doesG_g (b := β3) rfl (yld rfl rfl) (fun hg1 => ?_) (fun hc => ⟨fun hg1 => absurd hg1 hc, Ext.refl _⟩)
    obtain rfl := h29_ hg1
    obtain rfl := h32_ hg1
    refine (does_icmp (p := el3) (q := el1) (.inl rfl) (ev rfl) (ev rfl)).mono ?_; rintro _ _ ⟨rfl, rfl⟩
    exact ⟨fun _ => rfl, Ext.refl _⟩
  refine R_d (fun u hu hF => ?_) (fun v44 => ?_)
  · have h26_ : v36 = (Bo β3) := hF.1
    have h33_ : β3 = false → v43 = (Bo (icmp .eql el3 el1)) := hF.2.1
    clear hF
    refine doesG_un rfl ?_
    skip
    obtain rfl := h26_
    refine (does_pick (b := β3) (u := (Bo true)) (v := v43) (ev rfl) (ev rfl) (ev rfl)).mono ?_; rintro _ _ ⟨rfl, rfl⟩; refine ⟨?_, Ext.refl _⟩; rw [hβ4]; skip
    cases hbb : β3
    all_goals first | (show _ = _; simp only [↓reduceIte, Bool.true_and, Bool.false_and, Bool.true_or, Bool.false_or, Bool.false_eq_true]; done) | (have e_ := h33_ hbb; subst e_; show _ = _; simp only [↓reduceIte, Bool.true_and, Bool.false_and, Bool.true_or, Bool.false_or, Bool.false_eq_true]; done) | rfl | (have e_ := h33_ hbb; subst e_; rfl) | (simp [hbb] at h33_ ⊢; first | done | rfl | (subst h33_; rfl) | simp_all) | (simp [hbb] at h33_ ⊢; done)
  refine RW_fin ?_; intro w45 E46 hP47
  obtain ⟨⟨⟨⟨⟨⟨⟨⟨⟨⟨⟨⟨⟨⟨⟨⟨⟨⟨⟨⟨⟨⟨⟨⟨⟨⟨⟨⟨⟨⟨-, -⟩, -⟩, -⟩, -⟩, -⟩, -⟩, -⟩, -⟩, -⟩, -⟩, -⟩, -⟩, -⟩, -⟩, -⟩, -⟩, -⟩, -⟩, -⟩, -⟩, -⟩, -⟩, -⟩, -⟩, -⟩, -⟩, -⟩, -⟩, -⟩, q48⟩ := hP47
  have X49 := Ext.gr X14 E46
  have q48 : v44 = (Bo β4) := q48
  obtain rfl := q48
  refine fz ?_
  refine wn K10 ?_
  refine wp_cond_split (t := β4) (ev rfl) (fun c50 => ?_) (fun c50 => ?_)
  · have c50' := c50
    (try simp only [hβ1, hβ2, hβ3, hβ4] at c50')
    (try simp only [icmp, bs] at c50')
    refine wr fun _ K51 => ?_
    refine ja (Bo false) ?_
    refine wn K51 ?_
    refine wp_ret ?_
    dsimp only [Exit.then, Exit.inBlock]
    refine ret_val (v := (Bo false)) (res_T rfl (slot rfl)) X49 ?_
    try simp only [hβ1, hβ2, hβ3, hβ4] at c50
    have x52 : (triOk n_ L_t_) = false := by first | exact triOk_bad (by assumption) (by assumption) (by assumption) (by assumption) | exact triOk_any (by assumption) (by assumption) (by assumption) (by assumption)
    exact (by first | with_reducible rfl | rw [x52] | rfl)
  have c50' := c50
  (try simp only [hβ1, hβ2, hβ3, hβ4] at c50')
  (try simp only [icmp, bs] at c50')
  refine wp_skip (K9 _ _ ?_)
  refine wr fun _ K53 => ?_
  refine jm (.slice p_t_ L_t_.length q_t_) ?_
  refine jj (does_makeFunc (u := (.func (.func 63) #[] #[(Pt b2 0)])) (evs rfl) (evs rfl) rfl) ?_
  refine sd (does_call (args := #[(.slice p_t_ L_t_.length q_t_), (.func (.func 63) #[] #[(Pt b2 0)])]) cal62 (evs rfl) (c_slices_ContainsFunc_int64_int64 (.slice p_t_ L_t_.length q_t_) L_t_ (.func (.func 63) #[] #[(Pt b2 0)]) (fun x => !inI x 0 (IntKind.i64.wrap (n_ - 1))) _ (Sl.ext hv_t_ RI.mono X49) ⟨63, #[], #[(Pt b2 0)], rfl, cal63, fun n0 u hu'  => by simpa using (c_impl_isTriangle_1 n0 b2 0 n_ u (Blk.cells (((hB4.ext E12).ext E46).ext hu')))⟩)) ?_; rintro _ w55 ⟨E54, rfl⟩
  have X56 := Ext.gr X49 E54
  refine fz ?_
  refine jj (does_not (ev rfl)) ?_
  refine ja (Bo (!(L_t_.any (fun x => !inI x 0 (IntKind.i64.wrap (n_ - 1)))))) ?_
  refine wn K53 ?_
  refine wp_ret ?_
  refine ret_val (v := (Bo (!(L_t_.any (fun x => !inI x 0 (IntKind.i64.wrap (n_ - 1))))))) (res_T rfl (slot rfl)) X56 ?_
  try simp only [hβ1, hβ2, hβ3, hβ4] at c50
  have x57 : (triOk n_ L_t_) = (!(L_t_.any (fun x => !inI x 0 (IntKind.i64.wrap (n_ - 1))))) := by first | exact triOk_bad (by assumption) (by assumption) (by assumption) (by assumption) | exact triOk_any (by assumption) (by assumption) (by assumption) (by assumption)
  exact (by first | with_reducible rfl | rw [x57] | rfl)

/- impl.ValidMesh$1 -/
theorem c_impl_ValidMesh_1 (t_ : Value) (L_t_ : List Int) (m_b : Nat) (m_o : Nat) (m : List Value) (A_m : MeshT) (w : World) (hv_t_ : Sl RI 1 w t_ L_t_) (hc_m : Cells w m_b m_o m) (hv_m : RMeshT w A_m m) : Gives Try.prog 42 #[t_, (Pt m_b m_o)] w (fun v w' => v = (Bo (!triOk (A_m.places.length : Int) L_t_))) := by
  have hlen_t_ := Sl.len hv_t_; obtain ⟨p_t_, q_t_, rfl⟩ := Sl.shape hv_t_
  obtain ⟨y1, y3, rfl, h2, h4⟩ := hv_m
  have hs7 := h2; have hs7l := Sl.len h2; obtain ⟨p5, q6, rfl⟩ := Sl.shape h2
  have hs10 := h4; have hs10l := Sl.len h4; obtain ⟨p8, q9, rfl⟩ := Sl.shape h4
  refine enter [(.slice p_t_ L_t_.length q_t_), (Pt m_b m_o), Ud, Ud, Ud, Ud, Ud, Ud, Ud, Ud] Try.func42 rfl Try.ntmps42 rfl ?_
  refine wr fun _ K11 => ?_
  refine ja (Bo false) ?_
  refine wn K11 ?_
  refine wr fun _ K12 => ?_
  refine jm (.slice p_t_ L_t_.length q_t_) ?_
  refine jj (does_fieldAddr (ev rfl) fa32_0) ?_
  refine jj (does_load (u := (.slice p5 A_m.places.length q6)) (ev rfl) Try.isAgg29 (Cells.at hc_m 0 rfl)) ?_
  refine jj (does_len_slice Try.underlying29 (ev rfl)) ?_
  refine sd (does_call (args := #[(.slice p_t_ L_t_.length q_t_), (Iv (A_m.places.length : Int))]) cal43 (evs rfl) (c_impl_isTriangle (.slice p_t_ L_t_.length q_t_) L_t_ (A_m.places.length : Int) _ hv_t_)) ?_; rintro _ w14 ⟨E13, rfl⟩
  have X15 := Ext.gr (Ext.refl w) E13
  refine fz ?_
  refine jj (does_not (ev rfl)) ?_
  refine ja (Bo (!(triOk (A_m.places.length : Int) L_t_))) ?_
  refine wn K12 ?_
  refine wp_ret ?_
  refine ret_val (v := (Bo (!(triOk (A_m.places.length : Int) L_t_)))) (res_T rfl (slot rfl)) X15 ?_
  have x16 : (!triOk (A_m.places.length : Int) L_t_) = (!(triOk (A_m.places.length : Int) L_t_)) := by first | with_reducible rfl | (simp only []; done) | (simp []; done) | rfl
  exact (by first | with_reducible rfl | rw [x16] | rfl)

/- impl.ValidMesh -/
theorem c_impl_ValidMesh (m : List Value) (A_m : MeshT) (w : World) (hv_m : RMeshT w A_m m) : Gives Try.prog 20 #[(.agg m.toArray)] w (fun v w' => v = (Bo (meshOk A_m))) := by
  obtain ⟨y1, y3, rfl, h2, h4⟩ := hv_m
  have hs7 := h2; have hs7l := Sl.len h2; obtain ⟨p5, q6, rfl⟩ := Sl.shape h2
  have hs10 := h4; have hs10l := Sl.len h4; obtain ⟨p8, q9, rfl⟩ := Sl.shape h4
  refine enter [(.agg #[(.slice p5 A_m.places.length q6), (.slice p8 A_m.tris.length q9)]), Ud, Ud, Ud, Ud, Ud, Ud, Ud, Ud, Ud, Ud, Ud, Ud, Ud, Ud, Ud, Ud, Ud, Ud, Ud, Ud, Ud] Try.func20 rfl Try.ntmps20 rfl ?_
  refine wr fun _ K11 => ?_
  refine sd (does_box (u := (.agg #[(.slice p5 A_m.places.length q6), (.slice p8 A_m.tris.length q9)])) (ev rfl)) ?_; rintro _ w16 ⟨b12, rfl, hb13, hB14, E15⟩
  change Blk _ _ [(.slice p5 A_m.places.length q6), (.slice p8 A_m.tris.length q9)] at hB14
  have X18 := Ext.gr (Ext.refl w) E15
  refine fz ?_
  refine ja (Bo false) ?_
  refine wn K11 ?_
  refine wr fun _ K19 => ?_
  refine jj (does_fieldAddr (ev rfl) fa32_1) ?_
  refine jj (does_load (u := (.slice p8 A_m.tris.length q9)) (ev rfl) Try.isAgg30 (Cells.at (Blk.cells hB14) 1 rfl)) ?_
  refine jj (does_makeFunc (u := (.func (.func 42) #[] #[(Pt b12 0)])) (evs rfl) (evs rfl) rfl) ?_
  refine sd (does_call (args := #[(.slice p8 A_m.tris.length q9), (.func (.func 42) #[] #[(Pt b12 0)])]) cal41 (evs rfl) (c_slices_ContainsFunc_SS_int64_int64 (.slice p8 A_m.tris.length q9) A_m.tris (.func (.func 42) #[] #[(Pt b12 0)]) (fun x => !triOk (A_m.places.length : Int) x) _ (Sl.ext hs10 (RS.mono RI.mono) X18) ⟨42, #[], #[(Pt b12 0)], rfl, cal42, fun y0 X0 u hu' ha0 => by simpa using (c_impl_ValidMesh_1 y0 X0 b12 0 [(.slice p5 A_m.places.length q6), (.slice p8 A_m.tris.length q9)] A_m u ha0 (Blk.cells (hB14.ext hu')) ⟨(.slice p5 A_m.places.length q6), (.slice p8 A_m.tris.length q9), rfl, (Sl.ext (Sl.ext hs7 RV3.mono X18) RV3.mono hu'), (Sl.ext (Sl.ext hs10 (RS.mono RI.mono) X18) (RS.mono RI.mono) hu')⟩)⟩)) ?_; rintro _ w21 ⟨E20, rfl⟩
  have X22 := Ext.gr X18 E20
  refine fz ?_
  refine ja (Bo (A_m.tris.any (fun x => !triOk (A_m.places.length : Int) x))) ?_
  refine wn K19 ?_
  refine ws fun _ K23 => ?_
  obtain ⟨β1, hβ1⟩ : ∃ b : Bool, b = (A_m.tris.any (fun x => !triOk (A_m.places.length : Int) x)) := ⟨_, rfl⟩
  obtain ⟨β2, hβ2⟩ : ∃ b : Bool, b = (icmp .leq (A_m.places.length : Int) 8192) := ⟨_, rfl⟩
  obtain ⟨β3, hβ3⟩ : ∃ b : Bool, b = (icmp .leq (A_m.tris.length : Int) 9000) := ⟨_, rfl⟩
  refine region_text (
    [Fact.pure [] (fun v => v = (Bo β1)),
    Fact.pure [8] (fun v => v = (Bo (!β1))),
    Fact.pure [9] (fun v => v = (Bo (!β1))),
    Fact.pure [10] (fun v => (!β1) = true → v = (Pt b12 0)),
    Fact.pure [11, 10] (fun v => (!β1) = true → v = (.slice p5 A_m.places.length q6)),
    Fact.pure [12, 10] (fun v => (!β1) = true → v = (Iv (A_m.places.length : Int))),
    Fact.pure [13, 10] (fun v => (!β1) = true → v = (Bo β2)),
    Fact.pure [10, 14] (fun v => v = (Bo ((!β1) && β2))),
    Fact.pure [15] (fun v => v = (Bo ((!β1) && β2))),
    Fact.pure [16] (fun v => ((!β1) && β2) = true → v = (Pt b12 1)),
    Fact.pure [17, 16] (fun v => ((!β1) && β2) = true → v = (.slice p8 A_m.tris.length q9)),
    Fact.pure [18, 16] (fun v => ((!β1) && β2) = true → v = (Iv (A_m.tris.length : Int))),
    Fact.pure [19, 16] (fun v => ((!β1) && β2) = true → v = (Bo β3)),
    Fact.pure [16, 20] (fun v => v = (Bo (((!β1) && β2) && β3)))]) (by simp [Fact.pure, Fact.mem]) ?_
  refine R_d (fun u hu hF => ?_) (fun v24 => ?_)
  · clear hF
    refine doesG_un rfl ?_
    refine (does_move (u := (Bo (A_m.tris.any (fun x => !triOk (A_m.places.length : Int) x)))) (ev rfl)).mono ?_; rintro _ _ ⟨rfl, rfl⟩
    exact ⟨(by first | rfl | (show _ = _; simp only [hβ1]; done) | (show _ = _; simp only [hβ1]; rfl)), Ext.refl _⟩
  refine R_p (fun u hu hF => ?_) fun v25 => ?_
  · have h8_ : v24 = (Bo β1) := hF.1
    clear hF; subst h8_
    exact does_not (ev rfl)
  refine R_p (fun u hu hF => ?_) fun v26 => ?_
  · have h9_ : v25 = (Bo (!β1)) := hF.1
    clear hF; subst h9_
    exact does_move (u := (Bo (!β1))) (ev rfl)
  refine R_d (fun u hu hF => ?_) (fun v27 => ?_)
  · have h10_ : v26 = (Bo (!β1)) := hF.1
    clear hF
    obtain rfl := h10_
    refine doesG_g (b := (!β1)) rfl (yld rfl rfl) (fun hg1 => ?_) (fun hc => ⟨fun hg1 => absurd hg1 hc, Ext.refl _⟩)
    refine (does_fieldAddr (ev rfl) fa32_0).mono ?_; rintro _ _ ⟨rfl, rfl⟩
    exact ⟨fun _ => rfl, Ext.refl _⟩
  refine R_d (fun u hu hF => ?_) (fun v28 => ?_)
  · have h11_ : (!β1) = true → v27 = (Pt b12 0) := hF.1
    have h10_ : v26 = (Bo (!β1)) := hF.2.1
    clear hF
    obtain rfl := h10_
    refine doesG_g (b := (!β1)) rfl (yld rfl rfl) (fun hg1 => ?_) (fun hc => ⟨fun hg1 => absurd hg1 hc, Ext.refl _⟩)
    obtain rfl := h11_ hg1
    refine (does_load (u := (.slice p5 A_m.places.length q6)) (ev rfl) Try.isAgg29 (Cells.at (Blk.cells ((hB14.ext E20).ext hu)) 0 rfl)).mono ?_; rintro _ _ ⟨rfl, rfl⟩
    exact ⟨fun _ => rfl, Ext.refl _⟩
  refine R_d (fun u hu hF => ?_) (fun v29 => ?_)
  · have h12_ : (!β1) = true → v28 = (.slice p5 A_m.places.length q6) := hF.1
    have h10_ : v26 = (Bo (!β1)) := hF.2.1
    clear hF
    obtain rfl := h10_
    refine doesG_g (b := (!β1)) rfl (yld rfl rfl) (fun hg1 => ?_) (fun hc => ⟨fun hg1 => absurd hg1 hc, Ext.refl _⟩)
    obtain rfl := h12_ hg1
    refine (does_len_slice Try.underlying29 (ev rfl)).mono ?_; rintro _ _ ⟨rfl, rfl⟩
    exact ⟨fun _ => rfl, Ext.refl _⟩
  refine R_d (fun u hu hF => ?_) (fun v30 => ?_)
  · have h13_ : (!β1) = true → v29 = (Iv (A_m.places.length : Int)) := hF.1
    have h10_ : v26 = (Bo (!β1)) := hF.2.1
    clear hF
    obtain rfl := h10_
    refine doesG_g (b := (!β1)) rfl (yld rfl rfl) (fun hg1 => ?_) (fun hc => ⟨fun hg1 => absurd hg1 hc, Ext.refl _⟩)
    obtain rfl := h13_ hg1
    refine (does_icmp (p := (A_m.places.length : Int)) (q := 8192) (.inr (.inr (.inr (.inl rfl)))) (ev rfl) (ev rfl)).mono ?_; rintro _ _ ⟨rfl, rfl⟩
    exact ⟨fun _ => (by first | rfl | (show _ = _; simp only [hβ2]; done) | (show _ = _; simp only [hβ2]; rfl)), Ext.refl _⟩
  refine R_d (fun u hu hF => ?_) (fun v31 => ?_)
  · have h10_ : v26 = (Bo (!β1)) := hF.1
    have h14_ : (!β1) = true → v30 = (Bo β2) := hF.2.1
    clear hF
    refine doesG_un rfl ?_
    skip
    obtain rfl := h10_
    refine (does_pick (b := (!β1)) (u := v30) (v := (Bo false)) (ev rfl) (ev rfl) (ev rfl)).mono ?_; rintro _ _ ⟨rfl, rfl⟩; refine ⟨?_, Ext.refl _⟩; skip
    cases hbb : (!β1)
    all_goals first | (show _ = _; simp only [↓reduceIte, Bool.true_and, Bool.false_and, Bool.true_or, Bool.false_or, Bool.false_eq_true]; done) | (have e_ := h14_ hbb; subst e_; show _ = _; simp only [↓reduceIte, Bool.true_and, Bool.false_and, Bool.true_or, Bool.false_or, Bool.false_eq_true]; done) | rfl | (have e_ := h14_ hbb; subst e_; rfl) | (simp [hbb] at h14_ ⊢; first | done | rfl | (subst h14_; rfl) | simp_all) | (simp [hbb] at h14_ ⊢; done)
  refine R_p (fun u hu hF => ?_) fun v32 => ?_
  · have h15_ : v31 = (Bo ((!β1) && β2)) := hF.1
    clear hF; subst h15_
    exact does_move (u := (Bo ((!β1) && β2))) (ev rfl)
  refine R_d (fun u hu hF => ?_) (fun v33 => ?_)
  · have h16_ : v32 = (Bo ((!β1) && β2)) := hF.1
    clear hF
    obtain rfl := h16_
    refine doesG_g (b := ((!β1) && β2)) rfl (yld rfl rfl) (fun hg1 => ?_) (fun hc => ⟨fun hg1 => absurd hg1 hc, Ext.refl _⟩)
    refine (does_fieldAddr (ev rfl) fa32_1).mono ?_; rintro _ _ ⟨rfl, rfl⟩
    exact ⟨fun _ => rfl, Ext.refl _⟩
  refine R_d (fun u hu hF => ?_) (fun v34 => ?_)
  · have h17_ : ((!β1) && β2) = true → v33 = (Pt b12 1) := hF.1
    have h16_ : v32 = (Bo ((!β1) && β2)) := hF.2.1
    clear hF
    obtain rfl := h16_
    refine doesG_g (b := ((!β1) && β2)) rfl (yld rfl rfl) (fun hg1 => ?_) (fun hc => ⟨fun hg1 => absurd hg1 hc, Ext.refl _⟩)
    obtain rfl := h17_ hg1
    refine (does_load (u := (.slice p8 A_m.tris.length q9)) (ev rfl) Try.isAgg30 (Cells.at (Blk.cells ((hB14.ext E20).ext hu)) 1 rfl)).mono ?_; rintro _ _ ⟨rfl, rfl⟩
    exact ⟨fun _ => rfl, Ext.refl _⟩
  refine R_d (fun u hu hF => ?_) (fun v35 => ?_)
  · have h18_ : ((!β1) && β2) = true → v34 = (.slice p8 A_m.tris.length q9) := hF.1
    have h16_ : v32 = (Bo ((!β1) && β2)) := hF.2.1
    clear hF
    obtain rfl := h16_
    refine doesG_g (b := ((!β1) && β2)) rfl (yld rfl rfl) (fun hg1 => ?_) (fun hc => ⟨fun hg1 => absurd hg1 hc, Ext.refl _⟩)
    obtain rfl := h18_ hg1
    refine (does_len_slice Try.underlying30 (ev rfl)).mono ?_; rintro _ _ ⟨rfl, rfl⟩
    exact ⟨fun _ => rfl, Ext.refl _⟩
  refine R_d (fun u hu hF => ?_) (fun v36 => ?_)
  · have h19_ : ((!β1) && β2) = true → v35 = (Iv (A_m.tris.length : Int)) := hF.1
    have h16_ : v32 = (Bo ((!β1) && β2)) := hF.2.1
    clear hF
    obtain rfl := h16_
    refine doesG_g (b := ((!β1) && β2)) rfl (yld rfl rfl) (fun hg1 => ?_) (fun hc => ⟨fun hg1 => absurd hg1 hc, Ext.refl _⟩)
    obtain rfl := h19_ hg1
    refine (does_icmp (p := (A_m.tris.length : Int)) (q := 9000) (.inr (.inr (.inr (.inl rfl)))) (ev rfl) (ev rfl)).mono ?_; rintro _ _ ⟨rfl, rfl⟩
    exact ⟨fun _ => (by first | rfl | (show _ = _; simp only [hβ3]; done) | (show _ = _; simp only [hβ3]; rfl)), Ext.refl _⟩
  refine R_d (fun u hu hF => ?_) (fun v37 => ?_)
  · have h16_ : v32 = (Bo ((!β1) && β2)) := hF.1
    have h20_ : ((!β1) && β2) = true → v36 = (Bo β3) := hF.2.1
    clear hF
    refine doesG_un rfl ?_
    skip
    obtain rfl := h16_
    refine (does_pick (b := ((!β1) && β2)) (u := v36) (v := (Bo false)) (ev rfl) (ev rfl) (ev rfl)).mono ?_; rintro _ _ ⟨rfl, rfl⟩; refine ⟨?_, Ext.refl _⟩; skip
    cases hbb : ((!β1) && β2)
    all_goals first | (show _ = _; simp only [↓reduceIte, Bool.true_and, Bool.false_and, Bool.true_or, Bool.false_or, Bool.false_eq_true]; done) | (have e_ := h20_ hbb; subst e_; show _ = _; simp only [↓reduceIte, Bool.true_and, Bool.false_and, Bool.true_or, Bool.false_or, Bool.false_eq_true]; done) | rfl | (have e_ := h20_ hbb; subst e_; rfl) | (simp [hbb] at h20_ ⊢; first | done | rfl | (subst h20_; rfl) | simp_all) | (simp [hbb] at h20_ ⊢; done)
  refine RW_fin ?_; intro w38 E39 hP40
  obtain ⟨⟨⟨⟨⟨⟨⟨⟨⟨⟨⟨⟨⟨⟨-, -⟩, -⟩, -⟩, -⟩, -⟩, -⟩, -⟩, -⟩, -⟩, -⟩, -⟩, -⟩, -⟩, q41⟩ := hP40
  have X42 := Ext.gr X22 E39
  have q41 : v37 = (Bo (((!β1) && β2) && β3)) := q41
  obtain rfl := q41
  refine fz ?_
  refine ja (Bo (((!β1) && β2) && β3)) ?_
  refine wn K23 ?_
  refine wp_ret ?_
  refine ret_val (v := (Bo (((!β1) && β2) && β3))) (res_T rfl (slot rfl)) X42 ?_
  have x43 : (meshOk A_m) = (((!β1) && β2) && β3) := by first | with_reducible rfl | (simp only [meshOk, hβ1, hβ2, hβ3]; done) | (simp [meshOk, hβ1, hβ2, hβ3]; done) | rfl
  exact (by first | with_reducible rfl | rw [x43] | rfl)

/- impl.MeshOf -/
theorem c_impl_MeshOf (g : List Value) (A_g : GridT) (w : World) (hv_g : RGridT w A_g g) : Gives Try.prog 7 #[(.agg g.toArray)] w (fun v w' => ∃ cs_1 : List Value, ∃ Lw_2 : List Nat, v = (.tuple #[(.agg cs_1.toArray), (Bo (isGrid A_g))]) ∧ Hang w.heap.size w' (fun u => RMeshT u (mshM A_g) cs_1) ∧ WLM w.heap.size w' Lw_2 (cellN cs_1 0) (cellN cs_1 1) (mshM A_g)) := by
  obtain ⟨r1, r3, r5, r7, y9, rfl, h2, h4, h6, h8, h10⟩ := hv_g
  have hs13 := h10; have hs13l := Sl.len h10; obtain ⟨p11, q12, rfl⟩ := Sl.shape h10
  refine enter [(.agg #[(Fl r1), (Fl r3), (Fl r5), (Fl r7), (Iv A_g.x), (Iv A_g.y), (Iv A_g.z), (.slice p11 A_g.vals.length q12)]), Ud, Ud, Ud, Ud, Ud, Ud, Ud, Ud, Ud, Ud, Ud, Ud, Ud, Ud, Ud] Try.func7 rfl Try.ntmps7 rfl ?_
  refine wr fun _ K14 => ?_
  refine sd (does_box (u := (.agg #[(Fl r1), (Fl r3), (Fl r5), (Fl r7), (Iv A_g.x), (Iv A_g.y), (Iv A_g.z), (.slice p11 A_g.vals.length q12)])) (ev rfl)) ?_; rintro _ w19 ⟨b15, rfl, hb16, hB17, E18⟩
  change Blk _ _ [(Fl r1), (Fl r3), (Fl r5), (Fl r7), (Iv A_g.x), (Iv A_g.y), (Iv A_g.z), (.slice p11 A_g.vals.length q12)] at hB17
  have X21 := Ext.gr (Ext.refl w) E18
  refine fz ?_
  refine sd (does_alloc z32) ?_; rintro _ w26 ⟨b22, rfl, hb23, hB24, E25⟩
  have g28 : w.heap.size ≤ b22 := Nat.le_trans (Below.size X21) hb23
  change Blk _ _ [(.slice none 0 0), (.slice none 0 0)] at hB24
  have X29 := Ext.gr X21 E25
  refine fz ?_
  refine ja (Bo false) ?_
  refine wn K14 ?_
  refine ws fun _ K30 => ?_
  refine wr fun _ K31 => ?_
  refine jj (does_loadAgg (cs := [(Fl r1), (Fl r3), (Fl r5), (Fl r7), (Iv A_g.x), (Iv A_g.y), (Iv A_g.z), (.slice p11 A_g.vals.length q12)]) (ev rfl) Try.isAgg37 Try.sizeOf37 (Blk.cells (hB17.ext E25)) rfl) ?_
  refine sd (does_call (args := #[(.agg #[(Fl r1), (Fl r3), (Fl r5), (Fl r7), (Iv A_g.x), (Iv A_g.y), (Iv A_g.z), (.slice p11 A_g.vals.length q12)])]) cal18 (evs rfl) (c_impl_ValidGrid [(Fl r1), (Fl r3), (Fl r5), (Fl r7), (Iv A_g.x), (Iv A_g.y), (Iv A_g.z), (.slice p11 A_g.vals.length q12)] A_g _ ⟨r1, r3, r5, r7, (.slice p11 A_g.vals.length q12), rfl, h2, h4, h6, h8, (Sl.ext hs13 RF.mono X29)⟩)) ?_; rintro _ w33 ⟨E32, rfl⟩
  have X34 := Ext.gr X29 E32
  refine fz ?_
  refine jj (does_not (ev rfl)) ?_
  refine wn K31 ?_
  refine wp_cond_split (t := !(isGrid A_g)) (ev rfl) (fun c35 => ?_) (fun c35 => ?_)
  · rw [Bool.not_eq_true'] at c35
    have c35' := c35
    have hgf : isGrid A_g = false := c35
    refine wr fun _ K36 => ?_
    refine jj (does_build (parts' := []) (cells := #[(.slice none 0 0), (.slice none 0 0)]) (evp rfl) (by kernel_rfl)) ?_
    refine sn (does_store (n := 2) (cs := [(.slice none 0 0), (.slice none 0 0)]) (u := (.agg #[(.slice none 0 0), (.slice none 0 0)])) (ev rfl) (ev rfl) Try.sizeOf32 rfl (hB24.ext E32) (Nat.le_of_ble_eq_true rfl) rfl) ?_; rintro _ w39 ⟨rfl, W37, hB38⟩
    change Blk _ _ [(.slice none 0 0), (.slice none 0 0)] at hB38
    have X40 := Below.wr X34 W37 g28
    refine ja (Bo false) ?_
    refine wn K36 ?_
    refine wp_ret ?_
    dsimp only [Exit.then, Exit.inBlock]
    refine ret_val (v := (.tuple #[(.agg #[(.slice none 0 0), (.slice none 0 0)]), (Bo false)])) (res_CT rfl (slot rfl) (run_loadAgg (cs := [(.slice none 0 0), (.slice none 0 0)]) Try.isAgg32 Try.sizeOf32 (Blk.cells hB38) rfl) (slot rfl)) X40 ?_
    try simp only [h2, h4, h6, h8] at c35
    have x41 : (isGrid A_g) = false := by first | exact hgf | exact hgr | (rw [mshM_f hgf] <;> rfl) | (rw [mshM_t hgr] <;> rfl)
    have x42 : ([]) = ((mshM A_g).places) := by first | exact hgf | exact hgr | (rw [mshM_f hgf] <;> rfl) | (rw [mshM_t hgr] <;> rfl)
    have x43 : ([]) = ((mshM A_g).tris) := by first | exact hgf | exact hgr | (rw [mshM_f hgf] <;> rfl) | (rw [mshM_t hgr] <;> rfl)
    exact ⟨[(.slice none 0 0), (.slice none 0 0)], ([] ++ []), (by first | with_reducible rfl | rw [x41] | rfl), fun u hu => ⟨(.slice none 0 0), (.slice none 0 0), rfl, (Hang.castL (Sl.hang_nil _ _ _ _) x42) u hu, (Hang.castL (Sl.hang_nil _ _ _ _) x43) u hu⟩, (WLM.mk (C := w.heap.size) (WL.nil _ _ _) (WLL.nil _ _ _) (Nat.le_refl _) (fun _ hc => nomatch hc) (by first | rfl | (first | exact hgf | exact hgr | (rw [mshM_f hgf] <;> rfl) | (rw [mshM_t hgr] <;> rfl))) (by first | rfl | (first | exact hgf | exact hgr | (rw [mshM_f hgf] <;> rfl) | (rw [mshM_t hgr] <;> rfl))))⟩
  rw [Bool.not_eq_false'] at c35
  have c35' := c35
  have hgr : isGrid A_g = true := c35
  have hgc := isGrid_cnt hgr
  refine wp_skip (K30 _ _ ?_)
  refine wr fun _ K44 => ?_
  refine jj (does_loadAgg (cs := [(Fl r1), (Fl r3), (Fl r5), (Fl r7), (Iv A_g.x), (Iv A_g.y), (Iv A_g.z), (.slice p11 A_g.vals.length q12)]) (ev rfl) Try.isAgg37 Try.sizeOf37 (Blk.cells ((hB17.ext E25).ext E32)) rfl) ?_
  refine sd (does_call (args := #[(.agg #[(Fl r1), (Fl r3), (Fl r5), (Fl r7), (Iv A_g.x), (Iv A_g.y), (Iv A_g.z), (.slice p11 A_g.vals.length q12)])]) cal19 (evs rfl) (c_impl_meshOf [(Fl r1), (Fl r3), (Fl r5), (Fl r7), (Iv A_g.x), (Iv A_g.y), (Iv A_g.z), (.slice p11 A_g.vals.length q12)] A_g _ ⟨r1, r3, r5, r7, (.slice p11 A_g.vals.length q12), rfl, h2, h4, h6, h8, (Sl.ext hs13 RF.mono X34)⟩ (by exact hgr))) ?_; rintro _ w46 ⟨E45, ⟨cs48, Lw49, rfl, hh47, hw50⟩⟩
  have X51 := Ext.gr X34 E45
  have n53 : b22 < w33.heap.size := Blk.lt (hB24.ext E32)
  obtain ⟨y54, y56, rfl, h55, h57⟩ := hh47.get
  have h55l := Sl.len h55; obtain ⟨p58, q59, rfl⟩ := Sl.shape h55
  have hh60 : Hang w33.heap.size w46 (fun u => Sl RV3 3 u (.slice p58 (((meshG A_g).places).length) q59) ((meshG A_g).places)) := fun u hu => by obtain ⟨_, _, hq, _, _⟩ := hh47 u hu; cases hq; assumption
  have h57l := Sl.len h57; obtain ⟨p61, q62, rfl⟩ := Sl.shape h57
  have hh63 : Hang w33.heap.size w46 (fun u => Sl (RS RI 1) 1 u (.slice p61 (((meshG A_g).tris).length) q62) ((meshG A_g).tris)) := fun u hu => by obtain ⟨_, _, hq, _, _⟩ := hh47 u hu; cases hq; assumption
  have hw64 : WLM w33.heap.size w46 Lw49 (.slice p58 (((meshG A_g).places).length) q59) (.slice p61 (((meshG A_g).tris).length) q62) (meshG A_g) := hw50
  refine fz ?_
  refine sd (does_alloc z32) ?_; rintro _ w69 ⟨b65, rfl, hb66, hB67, E68⟩
  have n71 : b22 < b65 := Nat.lt_of_lt_of_le (Blk.lt ((hB24.ext E32).ext E45)) hb66
  have g72 : w.heap.size ≤ b65 := Nat.le_trans (Below.size X51) hb66
  change Blk _ _ [(.slice none 0 0), (.slice none 0 0)] at hB67
  have X73 := Ext.gr X51 E68
  refine fz ?_
  refine sn (does_store (n := 2) (cs := [(.slice none 0 0), (.slice none 0 0)]) (u := (.agg #[(.slice p58 (((meshG A_g).places).length) q59), (.slice p61 (((meshG A_g).tris).length) q62)])) (ev rfl) (ev rfl) Try.sizeOf32 rfl hB67 (Nat.le_of_ble_eq_true rfl) rfl) ?_; rintro _ w76 ⟨rfl, W74, hB75⟩
  change Blk _ _ [(.slice p58 (((meshG A_g).places).length) q59), (.slice p61 (((meshG A_g).tris).length) q62)] at hB75
  have X77 := Below.wr X73 W74 g72
  refine wn K44 ?_
  refine ws fun _ K78 => ?_
  refine wr fun _ K79 => ?_
  refine jj (does_loadAgg (cs := [(.slice p58 (((meshG A_g).places).length) q59), (.slice p61 (((meshG A_g).tris).length) q62)]) (ev rfl) Try.isAgg32 Try.sizeOf32 (Blk.cells hB75) rfl) ?_
  refine sd (does_call (args := #[(.agg #[(.slice p58 (((meshG A_g).places).length) q59), (.slice p61 (((meshG A_g).tris).length) q62)])]) cal20 (evs rfl) (c_impl_ValidMesh [(.slice p58 (((meshG A_g).places).length) q59), (.slice p61 (((meshG A_g).tris).length) q62)] (meshG A_g) _ ⟨(.slice p58 (((meshG A_g).places).length) q59), (.slice p61 (((meshG A_g).tris).length) q62), rfl, (hh60 _ (((Same.refl _ _).ext E68).wr W74 (.inr (Nat.le_trans (Nat.le_refl _) hb66)))), (hh63 _ (((Same.refl _ _).ext E68).wr W74 (.inr (Nat.le_trans (Nat.le_refl _) hb66))))⟩)) ?_; rintro _ w81 ⟨E80, rfl⟩
  have X82 := Ext.gr X77 E80
  refine fz ?_
  refine jj (does_not (ev rfl)) ?_
  refine wn K79 ?_
  refine wp_cond_split (t := !(meshOk (meshG A_g))) (ev rfl) (fun c83 => ?_) (fun c83 => ?_)
  · rw [Bool.not_eq_true'] at c83
    have c83' := c83
    exfalso; rw [meshG_ok hgr] at c83; exact Bool.noConfusion c83
  rw [Bool.not_eq_false'] at c83
  have c83' := c83
  refine wp_skip (K78 _ _ ?_)
  refine wr fun _ K84 => ?_
  refine jj (does_loadAgg (cs := [(.slice p58 (((meshG A_g).places).length) q59), (.slice p61 (((meshG A_g).tris).length) q62)]) (ev rfl) Try.isAgg32 Try.sizeOf32 (Blk.cells (hB75.ext E80)) rfl) ?_
  refine sn (does_store (n := 2) (cs := [(.slice none 0 0), (.slice none 0 0)]) (u := (.agg #[(.slice p58 (((meshG A_g).places).length) q59), (.slice p61 (((meshG A_g).tris).length) q62)])) (ev rfl) (ev rfl) Try.sizeOf32 rfl (((((hB24.ext E32).ext E45).ext E68).wr W74 (Nat.ne_of_lt n71)).ext E80) (Nat.le_of_ble_eq_true rfl) rfl) ?_; rintro _ w87 ⟨rfl, W85, hB86⟩
  change Blk _ _ [(.slice p58 (((meshG A_g).places).length) q59), (.slice p61 (((meshG A_g).tris).length) q62)] at hB86
  have X88 := Below.wr X82 W85 g28
  refine ja (Bo true) ?_
  refine wn K84 ?_
  refine wp_ret ?_
  refine ret_val (v := (.tuple #[(.agg #[(.slice p58 (((meshG A_g).places).length) q59), (.slice p61 (((meshG A_g).tris).length) q62)]), (Bo true)])) (res_CT rfl (slot rfl) (run_loadAgg (cs := [(.slice p58 (((meshG A_g).places).length) q59), (.slice p61 (((meshG A_g).tris).length) q62)]) Try.isAgg32 Try.sizeOf32 (Blk.cells hB86) rfl) (slot rfl)) X88 ?_
  try simp only [h2, h4, h6, h8] at c35 c83
  have x89 : (isGrid A_g) = true := by first | exact hgf | exact hgr | (rw [mshM_f hgf] <;> rfl) | (rw [mshM_t hgr] <;> rfl)
  have x90 : ((meshG A_g).places) = ((mshM A_g).places) := by first | exact hgf | exact hgr | (rw [mshM_f hgf] <;> rfl) | (rw [mshM_t hgr] <;> rfl)
  have x91 : ((meshG A_g).tris) = ((mshM A_g).tris) := by first | exact hgf | exact hgr | (rw [mshM_f hgf] <;> rfl) | (rw [mshM_t hgr] <;> rfl)
  exact ⟨[(.slice p58 (((meshG A_g).places).length) q59), (.slice p61 (((meshG A_g).tris).length) q62)], Lw49, (by first | with_reducible rfl | rw [x89] | rfl), fun u hu => ⟨(.slice p58 (((meshG A_g).places).length) q59), (.slice p61 (((meshG A_g).tris).length) q62), rfl, (Hang.castL ((Hang.to hh60 (((((Same.refl _ _).ext E68).wr W74 (.inr (Nat.le_trans (Nat.le_refl _) hb66))).ext E80).wr W85 (.inl n53))).le (Below.size (Ext.gr (Ext.gr (Ext.gr (Ext.refl _) E18) E25) E32))) x90) u hu, (Hang.castL ((Hang.to hh63 (((((Same.refl _ _).ext E68).wr W74 (.inr (Nat.le_trans (Nat.le_refl _) hb66))).ext E80).wr W85 (.inl n53))).le (Below.size (Ext.gr (Ext.gr (Ext.gr (Ext.refl _) E18) E25) E32))) x91) u hu⟩, ((show (meshG A_g) = (mshM A_g) from (by first | rfl | (first | exact hgf | exact hgr | (rw [mshM_f hgf] <;> rfl) | (rw [mshM_t hgr] <;> rfl)))) ▸ WLM.le (hw64.same (((((Same.refl _ _).ext E68).wr W74 (.inr (Nat.le_trans (Nat.le_refl _) hb66))).ext E80).wr W85 (.inl n53))) (Below.size (Ext.gr (Ext.gr (Ext.gr (Ext.refl _) E18) E25) E32)))⟩

end Go.Proofs.Ytjopopmipdakkaa
