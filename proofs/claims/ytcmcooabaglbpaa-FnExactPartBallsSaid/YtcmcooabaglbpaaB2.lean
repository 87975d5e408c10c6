/- contracts of functions, each walked once -/
import Derived.Test.YtcmcooabaglbpaaB
namespace Go.Proofs.Ytcmcooabaglbpaa
open Go Go.RowKit
set_option maxRecDepth 100000
set_option maxHeartbeats 3200000
set_option linter.unusedVariables false
set_option linter.unusedSimpArgs false

/- slices.IndexFunc[[]float32,float32] -/
theorem c_slices_IndexFunc_float32_float32 (xs : Value) (L_xs : List Nat) (f : Value) (pr_f : Nat → Bool) (w : World) (hv_xs : Sl RF 1 w xs L_xs) (hv_f : TellsF Try.prog f w pr_f) : Gives Try.prog 93 #[xs, f] w (fun v w' => v = (Iv (findI pr_f L_xs))) := by
  have hlen_xs := Sl.len hv_xs; obtain ⟨p_xs, q_xs, rfl⟩ := Sl.shape hv_xs
  obtain ⟨f_f, s_f, c_f, rfl, hcal_f, hg_f⟩ := hv_f
  refine enter [(.slice p_xs L_xs.length q_xs), (.func (.func f_f) s_f c_f), Ud, Ud, Ud, Ud, Ud, Ud, Ud, Ud, Ud, Ud, Ud, Ud, Ud, Ud, Ud, Ud, Ud] Try.func93 rfl Try.ntmps93 rfl ?_
  refine wp_seq_k fun K1 hK1 => ?_
  refine wp_region_lit ?_
  refine q_is (l' := [(.slice p_xs L_xs.length q_xs), (.func (.func f_f) s_f c_f), Ud, Ud, (Iv 0), Ud, Ud, Ud, Ud, Ud, Ud, Ud, Ud, Ud, Ud, Ud, Ud, Ud, Ud]) rfl rfl (does_assign (u := (Iv 0)) (ev rfl)) rfl ?_
  refine wpList_nil (hK1 _ _ ?_)
  refine wp_seq_k fun K2 hK2 => ?_
  refine wp_seq_k fun K3 hK3 => ?_
  refine wp_region_lit ?_
  refine q_is (l' := [(.slice p_xs L_xs.length q_xs), (.func (.func f_f) s_f c_f), Ud, Ud, (Iv 0), Ud, (.slice p_xs L_xs.length q_xs), Ud, Ud, Ud, Ud, Ud, Ud, Ud, Ud, Ud, Ud, Ud, Ud]) rfl rfl (does_move (u := (.slice p_xs L_xs.length q_xs)) (ev rfl)) rfl ?_
  refine q_is (l' := [(.slice p_xs L_xs.length q_xs), (.func (.func f_f) s_f c_f), Ud, Ud, (Iv 0), Ud, (.slice p_xs L_xs.length q_xs), (Iv (L_xs.length : Int)), Ud, Ud, Ud, Ud, Ud, Ud, Ud, Ud, Ud, Ud, Ud]) rfl rfl (does_len_slice Try.underlying25 (ev rfl)) rfl ?_
  refine q_is (l' := [(.slice p_xs L_xs.length q_xs), (.func (.func f_f) s_f c_f), Ud, Ud, (Iv 0), Ud, (.slice p_xs L_xs.length q_xs), (Iv (L_xs.length : Int)), (Iv 0), Ud, Ud, Ud, Ud, Ud, Ud, Ud, Ud, Ud, Ud]) rfl rfl (does_move (u := (Iv 0)) (ev rfl)) rfl ?_
  refine wpList_nil (hK3 _ _ ?_)
  refine wp_block ?_
  refine loop_ghost (σ := Nat) (fun k a w' => ∃ u4 : Nat → Value, a = fr [(.slice p_xs L_xs.length q_xs), (.func (.func f_f) s_f c_f), Ud, Ud, (u4 4), (u4 5), (.slice p_xs L_xs.length q_xs), (Iv (L_xs.length : Int)), (Iv (k : Int)), (u4 9), (u4 10), (u4 11), (u4 12), (u4 13), (u4 14), (u4 15), (u4 16), (u4 17), (u4 18)] ∧ Ext w w' ∧ (k ≤ L_xs.length ∧ NoneTo pr_f L_xs k)) (fun k => L_xs.length - k) 0 ?_ ?_
  · refine ⟨fun t => (([(.slice p_xs L_xs.length q_xs), (.func (.func f_f) s_f c_f), Ud, Ud, (Iv 0), Ud, (.slice p_xs L_xs.length q_xs), (Iv (L_xs.length : Int)), (Iv 0), Ud, Ud, Ud, Ud, Ud, Ud, Ud, Ud, Ud, Ud] : List Value)[t]?).getD undef, rfl, Ext.refl _, ?_⟩
    exact ⟨Nat.zero_le _, NoneTo.zero⟩
  · rintro k a w5 ⟨u4, rfl, E6, ⟨hk, hno⟩⟩
    have X8 := Ext.gr (Ext.refl w) E6
    refine wp_seq_k fun K9 hK9 => ?_
    refine wp_region_lit ?_
    refine q_is (l' := [(.slice p_xs L_xs.length q_xs), (.func (.func f_f) s_f c_f), Ud, Ud, (u4 4), (u4 5), (.slice p_xs L_xs.length q_xs), (Iv (L_xs.length : Int)), (Iv (k : Int)), (Bo (icmp .lss (k : Int) (L_xs.length : Int))), (u4 10), (u4 11), (u4 12), (u4 13), (u4 14), (u4 15), (u4 16), (u4 17), (u4 18)]) rfl rfl (does_icmp (p := (k : Int)) (q := (L_xs.length : Int)) (.inr (.inr (.inl rfl))) (ev rfl) (ev rfl)) rfl ?_
    refine wpList_nil (hK9 _ _ ?_)
    refine wp_seq_k fun K10 hK10 => ?_
    refine wp_cond_split (t := icmp .lss (k : Int) (L_xs.length : Int)) (ev rfl) (fun c11 => ?_) (fun c11 => ?_)
    · have c11' := c11
      (try simp only [icmp, Bool.and_eq_true, Bool.or_eq_true, Bool.and_eq_false_iff, Bool.or_eq_false_iff, Bool.not_eq_true', Bool.not_eq_false', decide_eq_true_eq, decide_eq_false_iff_not, beq_iff_eq, bne_iff_ne, beq_eq_false_iff_ne, bne_eq_false_iff_eq] at c11')
      refine wp_skip (hK10 _ _ ?_)
      refine wp_seq_k fun K12 hK12 => ?_
      refine wp_block ?_
      refine wp_seq_k fun K13 hK13 => ?_
      refine wp_region_lit ?_
      refine q_is (l' := [(.slice p_xs L_xs.length q_xs), (.func (.func f_f) s_f c_f), Ud, Ud, (u4 4), (u4 5), (.slice p_xs L_xs.length q_xs), (Iv (L_xs.length : Int)), (Iv (k : Int)), (Bo (icmp .lss (k : Int) (L_xs.length : Int))), (Iv (k : Int)), (u4 11), (u4 12), (u4 13), (u4 14), (u4 15), (u4 16), (u4 17), (u4 18)]) rfl rfl (does_move (u := (Iv (k : Int))) (ev rfl)) rfl ?_
      refine q_is (l' := [(.slice p_xs L_xs.length q_xs), (.func (.func f_f) s_f c_f), Ud, Ud, (u4 4), (Iv (k : Int)), (.slice p_xs L_xs.length q_xs), (Iv (L_xs.length : Int)), (Iv (k : Int)), (Bo (icmp .lss (k : Int) (L_xs.length : Int))), (Iv (k : Int)), (u4 11), (u4 12), (u4 13), (u4 14), (u4 15), (u4 16), (u4 17), (u4 18)]) rfl rfl (does_assign (u := (Iv (k : Int))) (ev rfl)) rfl ?_
      refine wpList_nil (hK13 _ _ ?_)
      refine wp_seq_k fun K14 hK14 => ?_
      refine wp_region_lit ?_
      refine q_is (l' := [(.slice p_xs L_xs.length q_xs), (.func (.func f_f) s_f c_f), Ud, Ud, (u4 4), (Iv (k : Int)), (.slice p_xs L_xs.length q_xs), (Iv (L_xs.length : Int)), (Iv (k : Int)), (Bo (icmp .lss (k : Int) (L_xs.length : Int))), (Iv (k : Int)), (.func (.func f_f) s_f c_f), (u4 12), (u4 13), (u4 14), (u4 15), (u4 16), (u4 17), (u4 18)]) rfl rfl (does_move (u := (.func (.func f_f) s_f c_f)) (ev rfl)) rfl ?_
      refine q_is (l' := [(.slice p_xs L_xs.length q_xs), (.func (.func f_f) s_f c_f), Ud, Ud, (u4 4), (Iv (k : Int)), (.slice p_xs L_xs.length q_xs), (Iv (L_xs.length : Int)), (Iv (k : Int)), (Bo (icmp .lss (k : Int) (L_xs.length : Int))), (Iv (k : Int)), (.func (.func f_f) s_f c_f), (.slice p_xs L_xs.length q_xs), (u4 13), (u4 14), (u4 15), (u4 16), (u4 17), (u4 18)]) rfl rfl (does_move (u := (.slice p_xs L_xs.length q_xs)) (ev rfl)) rfl ?_
      refine q_is (l' := [(.slice p_xs L_xs.length q_xs), (.func (.func f_f) s_f c_f), Ud, Ud, (u4 4), (Iv (k : Int)), (.slice p_xs L_xs.length q_xs), (Iv (L_xs.length : Int)), (Iv (k : Int)), (Bo (icmp .lss (k : Int) (L_xs.length : Int))), (Iv (k : Int)), (.func (.func f_f) s_f c_f), (.slice p_xs L_xs.length q_xs), (Iv (k : Int)), (u4 14), (u4 15), (u4 16), (u4 17), (u4 18)]) rfl rfl (does_move (u := (Iv (k : Int))) (ev rfl)) rfl ?_
      obtain ⟨el1, hel1⟩ : ∃ e, L_xs[k]? = some e := ⟨_, List.getElem?_eq_getElem (by omega)⟩
      refine seqd rfl rfl (does_indexSl (R := RF) (i := (k : Int)) (xs := L_xs) (e := el1) Try.underlying25 Try.sizeOf22 (ev rfl) (ev rfl) (Sl.ext hv_xs RF.mono X8) (by omega) hel1) ?_; rintro _ w5 ⟨b15, o16, _, rfl, hc18, ⟨r19, rfl, h20⟩, rfl⟩
      show wpList _ _ _ _ (fr [(.slice p_xs L_xs.length q_xs), (.func (.func f_f) s_f c_f), Ud, Ud, (u4 4), (Iv (k : Int)), (.slice p_xs L_xs.length q_xs), (Iv (L_xs.length : Int)), (Iv (k : Int)), (Bo (icmp .lss (k : Int) (L_xs.length : Int))), (Iv (k : Int)), (.func (.func f_f) s_f c_f), (.slice p_xs L_xs.length q_xs), (Iv (k : Int)), (Pt b15 o16), (u4 15), (u4 16), (u4 17), (u4 18)]) _
      refine q_is (l' := [(.slice p_xs L_xs.length q_xs), (.func (.func f_f) s_f c_f), Ud, Ud, (u4 4), (Iv (k : Int)), (.slice p_xs L_xs.length q_xs), (Iv (L_xs.length : Int)), (Iv (k : Int)), (Bo (icmp .lss (k : Int) (L_xs.length : Int))), (Iv (k : Int)), (.func (.func f_f) s_f c_f), (.slice p_xs L_xs.length q_xs), (Iv (k : Int)), (Pt b15 o16), (Fl r19), (u4 16), (u4 17), (u4 18)]) rfl rfl (does_load (u := (Fl r19)) (ev rfl) Try.isAgg22 (Cells.at hc18 0 rfl)) rfl ?_
      refine seqd rfl rfl (does_callf (args := #[(Fl r19)]) (ev rfl) hcal_f (evs rfl) (hg_f r19 _ X8)) ?_; rintro _ w22 ⟨E21, rfl⟩
      have X23 := Ext.gr X8 E21
      show wpList _ _ _ _ (fr [(.slice p_xs L_xs.length q_xs), (.func (.func f_f) s_f c_f), Ud, Ud, (u4 4), (Iv (k : Int)), (.slice p_xs L_xs.length q_xs), (Iv (L_xs.length : Int)), (Iv (k : Int)), (Bo (icmp .lss (k : Int) (L_xs.length : Int))), (Iv (k : Int)), (.func (.func f_f) s_f c_f), (.slice p_xs L_xs.length q_xs), (Iv (k : Int)), (Pt b15 o16), (Fl r19), (Bo (pr_f (cf .f32 r19))), (u4 17), (u4 18)]) _
      refine wpList_nil (hK14 _ _ ?_)
      refine wp_cond_split (t := pr_f (cf .f32 r19)) (ev rfl) (fun c24 => ?_) (fun c24 => ?_)
      · have c24' := c24
        refine wp_seq_k fun K25 hK25 => ?_
        refine wp_region_lit ?_
        refine q_is (l' := [(.slice p_xs L_xs.length q_xs), (.func (.func f_f) s_f c_f), Ud, Ud, (u4 4), (Iv (k : Int)), (.slice p_xs L_xs.length q_xs), (Iv (L_xs.length : Int)), (Iv (k : Int)), (Bo (icmp .lss (k : Int) (L_xs.length : Int))), (Iv (k : Int)), (.func (.func f_f) s_f c_f), (.slice p_xs L_xs.length q_xs), (Iv (k : Int)), (Pt b15 o16), (Fl r19), (Bo (pr_f (cf .f32 r19))), (Iv (k : Int)), (u4 18)]) rfl rfl (does_move (u := (Iv (k : Int))) (ev rfl)) rfl ?_
        refine q_is (l' := [(.slice p_xs L_xs.length q_xs), (.func (.func f_f) s_f c_f), Ud, Ud, (Iv (k : Int)), (Iv (k : Int)), (.slice p_xs L_xs.length q_xs), (Iv (L_xs.length : Int)), (Iv (k : Int)), (Bo (icmp .lss (k : Int) (L_xs.length : Int))), (Iv (k : Int)), (.func (.func f_f) s_f c_f), (.slice p_xs L_xs.length q_xs), (Iv (k : Int)), (Pt b15 o16), (Fl r19), (Bo (pr_f (cf .f32 r19))), (Iv (k : Int)), (u4 18)]) rfl rfl (does_assign (u := (Iv (k : Int))) (ev rfl)) rfl ?_
        refine wpList_nil (hK25 _ _ ?_)
        refine wp_ret ?_
        dsimp only [Exit.then, Exit.inBlock]
        refine ret_val (v := (Iv (k : Int))) (res_T rfl (slot rfl)) X23 ?_
        try simp only [hel1, h20] at c11 c24
        have x26 : (findI pr_f L_xs : Int) = (k : Int) := by first | exact findI_at hno (by assumption) (by simp_all) | exact findI_none hno (by omega)
        exact (by first | with_reducible rfl | rw [x26] | rfl)
      have c24' := c24
      refine wp_skip (hK12 _ _ ?_)
      refine wp_region_lit ?_
      refine q_is (l' := [(.slice p_xs L_xs.length q_xs), (.func (.func f_f) s_f c_f), Ud, Ud, (u4 4), (Iv (k : Int)), (.slice p_xs L_xs.length q_xs), (Iv (L_xs.length : Int)), (Iv (k : Int)), (Bo (icmp .lss (k : Int) (L_xs.length : Int))), (Iv (k : Int)), (.func (.func f_f) s_f c_f), (.slice p_xs L_xs.length q_xs), (Iv (k : Int)), (Pt b15 o16), (Fl r19), (Bo (pr_f (cf .f32 r19))), (u4 17), (Iv ((k : Int) + 1))]) rfl rfl (does_iarith (p := (k : Int)) (q := 1) (r := (k : Int) + 1) (ev rfl) (ev rfl) (.inl ⟨rfl, (in_i64 (by omega) (by omega)).symm⟩)) rfl ?_
      refine q_is (l' := [(.slice p_xs L_xs.length q_xs), (.func (.func f_f) s_f c_f), Ud, Ud, (u4 4), (Iv (k : Int)), (.slice p_xs L_xs.length q_xs), (Iv (L_xs.length : Int)), (Iv ((k : Int) + 1)), (Bo (icmp .lss (k : Int) (L_xs.length : Int))), (Iv (k : Int)), (.func (.func f_f) s_f c_f), (.slice p_xs L_xs.length q_xs), (Iv (k : Int)), (Pt b15 o16), (Fl r19), (Bo (pr_f (cf .f32 r19))), (u4 17), (Iv ((k : Int) + 1))]) rfl rfl (does_move (u := (Iv ((k : Int) + 1))) (ev rfl)) rfl ?_
      refine wpList_nil ?_
      refine ⟨k + 1, ⟨fun t => (([(.slice p_xs L_xs.length q_xs), (.func (.func f_f) s_f c_f), Ud, Ud, (u4 4), (Iv (k : Int)), (.slice p_xs L_xs.length q_xs), (Iv (L_xs.length : Int)), (Iv ((k : Int) + 1)), (Bo (icmp .lss (k : Int) (L_xs.length : Int))), (Iv (k : Int)), (.func (.func f_f) s_f c_f), (.slice p_xs L_xs.length q_xs), (Iv (k : Int)), (Pt b15 o16), (Fl r19), (Bo (pr_f (cf .f32 r19))), (u4 17), (Iv ((k : Int) + 1))] : List Value)[t]?).getD undef, ?_, (Ext.gr E6 E21), ?_⟩, ?_⟩
      · first | rfl | (simp only [Nat.cast_add, Nat.cast_one, Int.natCast_add, Int.natCast_one]; rfl)
      · exact ⟨by omega, NoneTo.step hno (by assumption) (by simp_all)⟩
      · omega
    have c11' := c11
    (try simp only [icmp, Bool.and_eq_true, Bool.or_eq_true, Bool.and_eq_false_iff, Bool.or_eq_false_iff, Bool.not_eq_true', Bool.not_eq_false', decide_eq_true_eq, decide_eq_false_iff_not, beq_iff_eq, bne_iff_ne, beq_eq_false_iff_ne, bne_eq_false_iff_eq] at c11')
    refine wp_exit ?_
    refine hK2 _ _ ?_
    refine wp_seq_k fun K27 hK27 => ?_
    refine wp_region_lit ?_
    refine q_is (l' := [(.slice p_xs L_xs.length q_xs), (.func (.func f_f) s_f c_f), Ud, Ud, (Iv (-1)), (u4 5), (.slice p_xs L_xs.length q_xs), (Iv (L_xs.length : Int)), (Iv (k : Int)), (Bo (icmp .lss (k : Int) (L_xs.length : Int))), (u4 10), (u4 11), (u4 12), (u4 13), (u4 14), (u4 15), (u4 16), (u4 17), (u4 18)]) rfl rfl (does_assign (u := (Iv (-1))) (ev rfl)) rfl ?_
    refine wpList_nil (hK27 _ _ ?_)
    refine wp_ret ?_
    refine ret_val (v := (Iv (-1))) (res_T rfl (slot rfl)) X8 ?_
    have x28 : (findI pr_f L_xs : Int) = (-1) := by first | exact findI_at hno (by assumption) (by simp_all) | exact findI_none hno (by omega)
    exact (by first | with_reducible rfl | rw [x28] | rfl)

/- slices.ContainsFunc[[]float32,float32] -/
theorem c_slices_ContainsFunc_float32_float32 (xs : Value) (L_xs : List Nat) (f : Value) (pr_f : Nat → Bool) (w : World) (hv_xs : Sl RF 1 w xs L_xs) (hv_f : TellsF Try.prog f w pr_f) : Gives Try.prog 82 #[xs, f] w (fun v w' => v = (Bo (L_xs.any pr_f))) := by
  have hlen_xs := Sl.len hv_xs; obtain ⟨p_xs, q_xs, rfl⟩ := Sl.shape hv_xs
  obtain ⟨f_f, s_f, c_f, rfl, hcal_f, hg_f⟩ := hv_f
  refine enter [(.slice p_xs L_xs.length q_xs), (.func (.func f_f) s_f c_f), Ud, Ud, Ud, Ud, Ud, Ud, Ud] Try.func82 rfl Try.ntmps82 rfl ?_
  refine wp_seq_k fun K1 hK1 => ?_
  refine wp_region_lit ?_
  refine q_is (l' := [(.slice p_xs L_xs.length q_xs), (.func (.func f_f) s_f c_f), Ud, Ud, (Bo false), Ud, Ud, Ud, Ud]) rfl rfl (does_assign (u := (Bo false)) (ev rfl)) rfl ?_
  refine wpList_nil (hK1 _ _ ?_)
  refine wp_seq_k fun K2 hK2 => ?_
  refine wp_region_lit ?_
  refine q_is (l' := [(.slice p_xs L_xs.length q_xs), (.func (.func f_f) s_f c_f), Ud, Ud, (Bo false), (.slice p_xs L_xs.length q_xs), Ud, Ud, Ud]) rfl rfl (does_move (u := (.slice p_xs L_xs.length q_xs)) (ev rfl)) rfl ?_
  refine q_is (l' := [(.slice p_xs L_xs.length q_xs), (.func (.func f_f) s_f c_f), Ud, Ud, (Bo false), (.slice p_xs L_xs.length q_xs), (.func (.func f_f) s_f c_f), Ud, Ud]) rfl rfl (does_move (u := (.func (.func f_f) s_f c_f)) (ev rfl)) rfl ?_
  refine seqd rfl rfl (does_call (args := #[(.slice p_xs L_xs.length q_xs), (.func (.func f_f) s_f c_f)]) cal93 (evs rfl) (c_slices_IndexFunc_float32_float32 (.slice p_xs L_xs.length q_xs) L_xs (.func (.func f_f) s_f c_f) pr_f _ hv_xs ⟨_, _, _, rfl, hcal_f, fun r u hu' => hg_f r u (Ext.gr (Ext.refl w) hu')⟩)) ?_; rintro _ w4 ⟨E3, rfl⟩
  have X5 := Ext.gr (Ext.refl w) E3
  show wpList _ _ _ _ (fr [(.slice p_xs L_xs.length q_xs), (.func (.func f_f) s_f c_f), Ud, Ud, (Bo false), (.slice p_xs L_xs.length q_xs), (.func (.func f_f) s_f c_f), (Iv (findI pr_f L_xs)), Ud]) _
  refine q_is (l' := [(.slice p_xs L_xs.length q_xs), (.func (.func f_f) s_f c_f), Ud, Ud, (Bo false), (.slice p_xs L_xs.length q_xs), (.func (.func f_f) s_f c_f), (Iv (findI pr_f L_xs)), (Bo (icmp .geq (findI pr_f L_xs) 0))]) rfl rfl (does_icmp (p := findI pr_f L_xs) (q := 0) (.inr (.inr (.inr (.inr (.inr rfl))))) (ev rfl) (ev rfl)) rfl ?_
  refine q_is (l' := [(.slice p_xs L_xs.length q_xs), (.func (.func f_f) s_f c_f), Ud, Ud, (Bo (icmp .geq (findI pr_f L_xs) 0)), (.slice p_xs L_xs.length q_xs), (.func (.func f_f) s_f c_f), (Iv (findI pr_f L_xs)), (Bo (icmp .geq (findI pr_f L_xs) 0))]) rfl rfl (does_assign (u := (Bo (icmp .geq (findI pr_f L_xs) 0))) (ev rfl)) rfl ?_
  refine wpList_nil (hK2 _ _ ?_)
  refine wp_ret ?_
  refine ret_val (v := (Bo (icmp .geq (findI pr_f L_xs) 0))) (res_T rfl (slot rfl)) X5 ?_
  have x6 : (L_xs.any pr_f) = (icmp .geq (findI pr_f L_xs) 0) := by first | with_reducible rfl | (simp only [findI_any]; done) | (simp [findI_any]; done) | rfl
  exact (by first | with_reducible rfl | rw [x6] | rfl)

/- impl.IsFinite -/
theorem c_impl_IsFinite (x : Nat) (w : World) : Gives Try.prog 84 #[(Fl x)] w (fun v w' => v = (Bo (finF (cf .f32 x)))) := by
  refine enter [(Fl x), Ud, Ud, Ud, Ud, Ud, Ud] Try.func84 rfl Try.ntmps84 rfl ?_
  refine wp_seq_k fun K1 hK1 => ?_
  refine wp_region_lit ?_
  refine q_is (l' := [(Fl x), Ud, (Bo false), Ud, Ud, Ud, Ud]) rfl rfl (does_assign (u := (Bo false)) (ev rfl)) rfl ?_
  refine wpList_nil (hK1 _ _ ?_)
  refine wp_seq_k fun K2 hK2 => ?_
  refine wp_region_lit ?_
  refine q_is (l' := [(Fl x), Ud, (Bo false), (Fl x), Ud, Ud, Ud]) rfl rfl (does_move (u := (Fl x)) (ev rfl)) rfl ?_
  refine q_is (l' := [(Fl x), Ud, (Bo false), (Fl x), (Fl x), Ud, Ud]) rfl rfl (does_move (u := (Fl x)) (ev rfl)) rfl ?_
  refine seqd rfl rfl (does_float (.inr (.inl rfl)) (ev rfl) (ev rfl)) ?_; rintro _ w6 ⟨r3, rfl, h4, E5⟩
  have X7 := Ext.gr (Ext.refl w) E5
  show wpList _ _ _ _ (fr [(Fl x), Ud, (Bo false), (Fl x), (Fl x), (Fl r3), Ud]) _
  refine q_is (l' := [(Fl x), Ud, (Bo false), (Fl x), (Fl x), (Fl r3), (Bo (fcmp .eql (ford .f32 (cf .f32 r3) (cf .f32 0))))]) rfl rfl (does_fcmp (.inl rfl) (ev rfl) (ev rfl)) rfl ?_
  refine q_is (l' := [(Fl x), Ud, (Bo (fcmp .eql (ford .f32 (cf .f32 r3) (cf .f32 0)))), (Fl x), (Fl x), (Fl r3), (Bo (fcmp .eql (ford .f32 (cf .f32 r3) (cf .f32 0))))]) rfl rfl (does_assign (u := (Bo (fcmp .eql (ford .f32 (cf .f32 r3) (cf .f32 0))))) (ev rfl)) rfl ?_
  refine wpList_nil (hK2 _ _ ?_)
  refine wp_ret ?_
  refine ret_val (v := (Bo (fcmp .eql (ford .f32 (cf .f32 r3) (cf .f32 0))))) (res_T rfl (slot rfl)) X7 ?_
  have x8 : (finF (cf .f32 x)) = (fcmp .eql (ford .f32 (cf .f32 r3) (cf .f32 0))) := by first | with_reducible rfl | (simp only [finF, h4]; done) | (simp [finF, h4]; done) | rfl
  exact (by first | with_reducible rfl | rw [x8] | rfl)

/- impl.ballsOk$1 -/
theorem c_impl_ballsOk_1 (x : Nat) (w : World) : Gives Try.prog 83 #[(Fl x)] w (fun v w' => v = (Bo (badR (cf .f32 x)))) := by
  refine enter [(Fl x), Ud, Ud, Ud, Ud, Ud, Ud, Ud, Ud, Ud] Try.func83 rfl Try.ntmps83 rfl ?_
  refine wp_seq_k fun K1 hK1 => ?_
  refine wp_region_lit ?_
  refine q_is (l' := [(Fl x), Ud, (Bo false), Ud, Ud, Ud, Ud, Ud, Ud, Ud]) rfl rfl (does_assign (u := (Bo false)) (ev rfl)) rfl ?_
  refine wpList_nil (hK1 _ _ ?_)
  refine wp_seq_k fun K2 hK2 => ?_
  obtain ⟨β1, hβ1⟩ : ∃ b : Bool, b = (fcmp .lss (ford .f32 (cf .f32 x) (cf .f32 0))) := ⟨_, rfl⟩
  obtain ⟨β2, hβ2⟩ : ∃ b : Bool, b = ((!(finF (cf .f32 x))) || β1) := ⟨_, rfl⟩
  refine region_text (
    [Fact.pure [] (fun v => v = (Fl x)),
    Fact.pure [3] (fun v => v = (Bo (finF (cf .f32 x)))),
    Fact.pure [4] (fun v => v = (Bo (!(finF (cf .f32 x))))),
    Fact.pure [5] (fun v => v = (Bo (!(finF (cf .f32 x))))),
    Fact.pure [6] (fun v => (!(finF (cf .f32 x))) = false → v = (Fl x)),
    Fact.pure [7, 6] (fun v => (!(finF (cf .f32 x))) = false → v = (Bo β1)),
    Fact.pure [6, 8] (fun v => v = (Bo β2))]) (by simp [Fact.pure, Fact.mem]) ?_
  refine RW_d (fun v3 => [(Fl x), Ud, (Bo false), v3, Ud, Ud, Ud, Ud, Ud, Ud]) rfl (fun _ => rfl) (fun u hu hF => ?_) (fun v3 => ?_)
  · clear hF
    refine doesG_un rfl ?_
    refine (does_move (u := (Fl x)) (ev rfl)).mono ?_; rintro _ _ ⟨rfl, rfl⟩
    exact ⟨rfl, Ext.refl _⟩
  refine RW_d (fun v4 => [(Fl x), Ud, (Bo false), v3, v4, Ud, Ud, Ud, Ud, Ud]) rfl (fun _ => rfl) (fun u hu hF => ?_) (fun v4 => ?_)
  · have h3_ : v3 = (Fl x) := hF.1
    clear hF
    refine doesG_un rfl ?_
    obtain rfl := h3_
    refine (does_call (args := #[(Fl x)]) cal84 (evs rfl) (c_impl_IsFinite x _)).mono ?_; rintro v u' ⟨hx, hv⟩
    exact ⟨hv, hx⟩
  refine RW_d (fun v5 => [(Fl x), Ud, (Bo false), v3, v4, v5, Ud, Ud, Ud, Ud]) rfl (fun _ => rfl) (fun u hu hF => ?_) (fun v5 => ?_)
  · have h4_ : v4 = (Bo (finF (cf .f32 x))) := hF.1
    clear hF
    refine doesG_un rfl ?_
    obtain rfl := h4_
    refine (does_not (ev rfl)).mono ?_; rintro _ _ ⟨rfl, rfl⟩
    exact ⟨rfl, Ext.refl _⟩
  refine RW_d (fun v6 => [(Fl x), Ud, (Bo false), v3, v4, v5, v6, Ud, Ud, Ud]) rfl (fun _ => rfl) (fun u hu hF => ?_) (fun v6 => ?_)
  · have h5_ : v5 = (Bo (!(finF (cf .f32 x)))) := hF.1
    clear hF
    refine doesG_un rfl ?_
    obtain rfl := h5_
    refine (does_move (u := (Bo (!(finF (cf .f32 x))))) (ev rfl)).mono ?_; rintro _ _ ⟨rfl, rfl⟩
    exact ⟨rfl, Ext.refl _⟩
  refine RW_d (fun v7 => [(Fl x), Ud, (Bo false), v3, v4, v5, v6, v7, Ud, Ud]) rfl (fun _ => rfl) (fun u hu hF => ?_) (fun v7 => ?_)
  · have h6_ : v6 = (Bo (!(finF (cf .f32 x)))) := hF.1
    clear hF
    obtain rfl := h6_
    refine doesG_g (b := (!(finF (cf .f32 x)))) rfl (yld rfl rfl) (fun hg1 => ?_) (fun hc => ⟨fun hg1 => absurd hg1 hc, Ext.refl _⟩)
    refine (does_move (u := (Fl x)) (ev rfl)).mono ?_; rintro _ _ ⟨rfl, rfl⟩
    exact ⟨fun _ => rfl, Ext.refl _⟩
  refine RW_d (fun v8 => [(Fl x), Ud, (Bo false), v3, v4, v5, v6, v7, v8, Ud]) rfl (fun _ => rfl) (fun u hu hF => ?_) (fun v8 => ?_)
  · have h7_ : (!(finF (cf .f32 x))) = false → v7 = (Fl x) := hF.1
    have h6_ : v6 = (Bo (!(finF (cf .f32 x)))) := hF.2.1
    clear hF
    obtain rfl := h6_
    refine doesG_g (b := (!(finF (cf .f32 x)))) rfl (yld rfl rfl) (fun hg1 => ?_) (fun hc => ⟨fun hg1 => absurd hg1 hc, Ext.refl _⟩)
    obtain rfl := h7_ hg1
    refine (does_fcmp (.inr (.inr (.inl rfl))) (ev rfl) (ev rfl)).mono ?_; rintro _ _ ⟨rfl, rfl⟩
    exact ⟨fun _ => (by first | rfl | (show _ = _; simp only [hβ1]; done) | (show _ = _; simp only [hβ1]; rfl)), Ext.refl _⟩
  refine RW_d (fun v9 => [(Fl x), Ud, (Bo false), v3, v4, v5, v6, v7, v8, v9]) rfl (fun _ => rfl) (fun u hu hF => ?_) (fun v9 => ?_)
  · have h6_ : v6 = (Bo (!(finF (cf .f32 x)))) := hF.1
    have h8_ : (!(finF (cf .f32 x))) = false → v8 = (Bo β1) := hF.2.1
    clear hF
    refine doesG_un rfl ?_
    skip
    obtain rfl := h6_
    refine (does_pick (b := (!(finF (cf .f32 x)))) (u := (Bo true)) (v := v8) (ev rfl) (ev rfl) (ev rfl)).mono ?_; rintro _ _ ⟨rfl, rfl⟩; refine ⟨?_, Ext.refl _⟩; rw [hβ2]; skip
    cases hbb : (!(finF (cf .f32 x)))
    all_goals first | (show _ = _; simp only [↓reduceIte, Bool.true_and, Bool.false_and, Bool.true_or, Bool.false_or, Bool.false_eq_true]; done) | (have e_ := h8_ hbb; subst e_; show _ = _; simp only [↓reduceIte, Bool.true_and, Bool.false_and, Bool.true_or, Bool.false_or, Bool.false_eq_true]; done) | rfl | (have e_ := h8_ hbb; subst e_; rfl) | (simp [hbb] at h8_ ⊢; first | done | rfl | (subst h8_; rfl) | simp_all) | (simp [hbb] at h8_ ⊢; done)
  refine RW_fin ?_; intro w10 E11 hP12
  obtain ⟨⟨⟨⟨⟨⟨⟨-, -⟩, -⟩, -⟩, -⟩, -⟩, -⟩, q13⟩ := hP12
  have X14 := Ext.gr (Ext.refl w) E11
  have q13 : v9 = (Bo β2) := q13
  obtain rfl := q13
  show wpList _ _ _ _ (fr [(Fl x), Ud, (Bo false), v3, v4, v5, v6, v7, v8, (Bo β2)]) _
  refine q_is (l' := [(Fl x), Ud, (Bo β2), v3, v4, v5, v6, v7, v8, (Bo β2)]) rfl rfl (does_assign (u := (Bo β2)) (ev rfl)) rfl ?_
  refine wpList_nil (hK2 _ _ ?_)
  refine wp_ret ?_
  refine ret_val (v := (Bo β2)) (res_T rfl (slot rfl)) X14 ?_
  have x15 : (badR (cf .f32 x)) = β2 := by first | with_reducible rfl | (simp only [badR, negF, hβ1, hβ2]; done) | (simp [badR, negF, hβ1, hβ2]; done) | rfl
  exact (by first | with_reducible rfl | rw [x15] | rfl)

/- impl.ballsOk -/
theorem c_impl_ballsOk (ctr : Value) (L_ctr : List V3) (rad : Value) (L_rad : List Nat) (w : World) (hv_ctr : Sl RV3 3 w ctr L_ctr) (hv_rad : Sl RF 1 w rad L_rad) : Gives Try.prog 57 #[ctr, rad] w (fun v w' => v = (Bo (okBalls L_ctr L_rad))) := by
  have hlen_ctr := Sl.len hv_ctr; obtain ⟨p_ctr, q_ctr, rfl⟩ := Sl.shape hv_ctr
  have hlen_rad := Sl.len hv_rad; obtain ⟨p_rad, q_rad, rfl⟩ := Sl.shape hv_rad
  refine enter [(.slice p_ctr L_ctr.length q_ctr), (.slice p_rad L_rad.length q_rad), Ud, Ud, Ud, Ud, Ud, Ud, Ud, Ud, Ud, Ud, Ud, Ud, Ud, Ud, Ud, Ud, Ud, Ud, Ud, Ud] Try.func57 rfl Try.ntmps57 rfl ?_
  refine wp_seq_k fun K1 hK1 => ?_
  refine wp_region_lit ?_
  refine q_is (l' := [(.slice p_ctr L_ctr.length q_ctr), (.slice p_rad L_rad.length q_rad), Ud, Ud, (Bo false), Ud, Ud, Ud, Ud, Ud, Ud, Ud, Ud, Ud, Ud, Ud, Ud, Ud, Ud, Ud, Ud, Ud]) rfl rfl (does_assign (u := (Bo false)) (ev rfl)) rfl ?_
  refine wpList_nil (hK1 _ _ ?_)
  refine wp_seq_k fun K2 hK2 => ?_
  refine wp_region_lit ?_
  refine q_is (l' := [(.slice p_ctr L_ctr.length q_ctr), (.slice p_rad L_rad.length q_rad), Ud, Ud, (Bo false), Ud, (.slice p_rad L_rad.length q_rad), Ud, Ud, Ud, Ud, Ud, Ud, Ud, Ud, Ud, Ud, Ud, Ud, Ud, Ud, Ud]) rfl rfl (does_move (u := (.slice p_rad L_rad.length q_rad)) (ev rfl)) rfl ?_
  refine seqd rfl rfl (does_call (args := #[(.slice p_rad L_rad.length q_rad), (.func (.func 83) #[] #[])]) cal82 (evs rfl) (c_slices_ContainsFunc_float32_float32 (.slice p_rad L_rad.length q_rad) L_rad (.func (.func 83) #[] #[]) (fun x => badR x) _ hv_rad ⟨83, #[], #[], rfl, cal83, fun r u hu' => by simpa using (c_impl_ballsOk_1 r u)⟩)) ?_; rintro _ w4 ⟨E3, rfl⟩
  have X5 := Ext.gr (Ext.refl w) E3
  show wpList _ _ _ _ (fr [(.slice p_ctr L_ctr.length q_ctr), (.slice p_rad L_rad.length q_rad), Ud, Ud, (Bo false), Ud, (.slice p_rad L_rad.length q_rad), (Bo (L_rad.any (fun x => badR x))), Ud, Ud, Ud, Ud, Ud, Ud, Ud, Ud, Ud, Ud, Ud, Ud, Ud, Ud]) _
  refine q_is (l' := [(.slice p_ctr L_ctr.length q_ctr), (.slice p_rad L_rad.length q_rad), Ud, Ud, (Bo false), (Bo (L_rad.any (fun x => badR x))), (.slice p_rad L_rad.length q_rad), (Bo (L_rad.any (fun x => badR x))), Ud, Ud, Ud, Ud, Ud, Ud, Ud, Ud, Ud, Ud, Ud, Ud, Ud, Ud]) rfl rfl (does_assign (u := (Bo (L_rad.any (fun x => badR x)))) (ev rfl)) rfl ?_
  refine wpList_nil (hK2 _ _ ?_)
  refine wp_seq_k fun K6 hK6 => ?_
  obtain ⟨β1, hβ1⟩ : ∃ b : Bool, b = (L_rad.any (fun x => badR x)) := ⟨_, rfl⟩
  obtain ⟨β2, hβ2⟩ : ∃ b : Bool, b = (inI (L_ctr.length : Int) 1 16) := ⟨_, rfl⟩
  obtain ⟨β3, hβ3⟩ : ∃ b : Bool, b = (icmp .eql (L_rad.length : Int) (L_ctr.length : Int)) := ⟨_, rfl⟩
  refine region_text (
    [Fact.pure [] (fun v => v = (Bo β1)),
    Fact.pure [8] (fun v => v = (Bo (!β1))),
    Fact.pure [9] (fun v => v = (Bo (!β1))),
    Fact.pure [10] (fun v => (!β1) = true → v = (.slice p_ctr L_ctr.length q_ctr)),
    Fact.pure [11, 10] (fun v => (!β1) = true → v = (Iv (L_ctr.length : Int))),
    Fact.pure [12, 10] (fun v => (!β1) = true → v = (Bo β2)),
    Fact.pure [10, 13] (fun v => v = (Bo ((!β1) && β2))),
    Fact.pure [14] (fun v => v = (Bo ((!β1) && β2))),
    Fact.pure [15] (fun v => ((!β1) && β2) = true → v = (.slice p_rad L_rad.length q_rad)),
    Fact.pure [16, 15] (fun v => ((!β1) && β2) = true → v = (Iv (L_rad.length : Int))),
    Fact.pure [15] (fun v => ((!β1) && β2) = true → v = (.slice p_ctr L_ctr.length q_ctr)),
    Fact.pure [18, 15] (fun v => ((!β1) && β2) = true → v = (Iv (L_ctr.length : Int))),
    Fact.pure [17, 19, 15] (fun v => ((!β1) && β2) = true → v = (Bo β3)),
    Fact.pure [15, 20] (fun v => v = (Bo (((!β1) && β2) && β3)))]) (by simp [Fact.pure, Fact.mem]) ?_
  refine RW_d (fun v7 => [(.slice p_ctr L_ctr.length q_ctr), (.slice p_rad L_rad.length q_rad), Ud, Ud, (Bo false), (Bo (L_rad.any (fun x => badR x))), (.slice p_rad L_rad.length q_rad), (Bo (L_rad.any (fun x => badR x))), v7, Ud, Ud, Ud, Ud, Ud, Ud, Ud, Ud, Ud, Ud, Ud, Ud, Ud]) rfl (fun _ => rfl) (fun u hu hF => ?_) (fun v7 => ?_)
  · clear hF
    refine doesG_un rfl ?_
    refine (does_move (u := (Bo (L_rad.any (fun x => badR x)))) (ev rfl)).mono ?_; rintro _ _ ⟨rfl, rfl⟩
    exact ⟨(by first | rfl | (show _ = _; simp only [hβ1]; done) | (show _ = _; simp only [hβ1]; rfl)), Ext.refl _⟩
  refine RW_d (fun v8 => [(.slice p_ctr L_ctr.length q_ctr), (.slice p_rad L_rad.length q_rad), Ud, Ud, (Bo false), (Bo (L_rad.any (fun x => badR x))), (.slice p_rad L_rad.length q_rad), (Bo (L_rad.any (fun x => badR x))), v7, v8, Ud, Ud, Ud, Ud, Ud, Ud, Ud, Ud, Ud, Ud, Ud, Ud]) rfl (fun _ => rfl) (fun u hu hF => ?_) (fun v8 => ?_)
  · have h8_ : v7 = (Bo β1) := hF.1
    clear hF
    refine doesG_un rfl ?_
    obtain rfl := h8_
    refine (does_not (ev rfl)).mono ?_; rintro _ _ ⟨rfl, rfl⟩
    exact ⟨rfl, Ext.refl _⟩
  refine RW_d (fun v9 => [(.slice p_ctr L_ctr.length q_ctr), (.slice p_rad L_rad.length q_rad), Ud, Ud, (Bo false), (Bo (L_rad.any (fun x => badR x))), (.slice p_rad L_rad.length q_rad), (Bo (L_rad.any (fun x => badR x))), v7, v8, v9, Ud, Ud, Ud, Ud, Ud, Ud, Ud, Ud, Ud, Ud, Ud]) rfl (fun _ => rfl) (fun u hu hF => ?_) (fun v9 => ?_)
  · have h9_ : v8 = (Bo (!β1)) := hF.1
    clear hF
    refine doesG_un rfl ?_
    obtain rfl := h9_
    refine (does_move (u := (Bo (!β1))) (ev rfl)).mono ?_; rintro _ _ ⟨rfl, rfl⟩
    exact ⟨rfl, Ext.refl _⟩
  refine RW_d (fun v10 => [(.slice p_ctr L_ctr.length q_ctr), (.slice p_rad L_rad.length q_rad), Ud, Ud, (Bo false), (Bo (L_rad.any (fun x => badR x))), (.slice p_rad L_rad.length q_rad), (Bo (L_rad.any (fun x => badR x))), v7, v8, v9, v10, Ud, Ud, Ud, Ud, Ud, Ud, Ud, Ud, Ud, Ud]) rfl (fun _ => rfl) (fun u hu hF => ?_) (fun v10 => ?_)
  · have h10_ : v9 = (Bo (!β1)) := hF.1
    clear hF
    obtain rfl := h10_
    refine doesG_g (b := (!β1)) rfl (yld rfl rfl) (fun hg1 => ?_) (fun hc => ⟨fun hg1 => absurd hg1 hc, Ext.refl _⟩)
    refine (does_move (u := (.slice p_ctr L_ctr.length q_ctr)) (ev rfl)).mono ?_; rintro _ _ ⟨rfl, rfl⟩
    exact ⟨fun _ => rfl, Ext.refl _⟩
  refine RW_d (fun v11 => [(.slice p_ctr L_ctr.length q_ctr), (.slice p_rad L_rad.length q_rad), Ud, Ud, (Bo false), (Bo (L_rad.any (fun x => badR x))), (.slice p_rad L_rad.length q_rad), (Bo (L_rad.any (fun x => badR x))), v7, v8, v9, v10, v11, Ud, Ud, Ud, Ud, Ud, Ud, Ud, Ud, Ud]) rfl (fun _ => rfl) (fun u hu hF => ?_) (fun v11 => ?_)
  · have h11_ : (!β1) = true → v10 = (.slice p_ctr L_ctr.length q_ctr) := hF.1
    have h10_ : v9 = (Bo (!β1)) := hF.2.1
    clear hF
    obtain rfl := h10_
    refine doesG_g (b := (!β1)) rfl (yld rfl rfl) (fun hg1 => ?_) (fun hc => ⟨fun hg1 => absurd hg1 hc, Ext.refl _⟩)
    obtain rfl := h11_ hg1
    refine (does_len_slice Try.underlying47 (ev rfl)).mono ?_; rintro _ _ ⟨rfl, rfl⟩
    exact ⟨fun _ => rfl, Ext.refl _⟩
  refine RW_d (fun v12 => [(.slice p_ctr L_ctr.length q_ctr), (.slice p_rad L_rad.length q_rad), Ud, Ud, (Bo false), (Bo (L_rad.any (fun x => badR x))), (.slice p_rad L_rad.length q_rad), (Bo (L_rad.any (fun x => badR x))), v7, v8, v9, v10, v11, v12, Ud, Ud, Ud, Ud, Ud, Ud, Ud, Ud]) rfl (fun _ => rfl) (fun u hu hF => ?_) (fun v12 => ?_)
  · have h12_ : (!β1) = true → v11 = (Iv (L_ctr.length : Int)) := hF.1
    have h10_ : v9 = (Bo (!β1)) := hF.2.1
    clear hF
    obtain rfl := h10_
    refine doesG_g (b := (!β1)) rfl (yld rfl rfl) (fun hg1 => ?_) (fun hc => ⟨fun hg1 => absurd hg1 hc, Ext.refl _⟩)
    obtain rfl := h12_ hg1
    refine (does_call (args := #[(Iv (L_ctr.length : Int)), (Iv 1), (Iv 16)]) cal72 (evs rfl) (c_impl_in (L_ctr.length : Int) 1 16 _)).mono ?_; rintro v u' ⟨hx, hv⟩
    exact ⟨fun _ => hv.trans (by simp only [hβ2]), hx⟩
  refine RW_d (fun v13 => [(.slice p_ctr L_ctr.length q_ctr), (.slice p_rad L_rad.length q_rad), Ud, Ud, (Bo false), (Bo (L_rad.any (fun x => badR x))), (.slice p_rad L_rad.length q_rad), (Bo (L_rad.any (fun x => badR x))), v7, v8, v9, v10, v11, v12, v13, Ud, Ud, Ud, Ud, Ud, Ud, Ud]) rfl (fun _ => rfl) (fun u hu hF => ?_) (fun v13 => ?_)
  · have h10_ : v9 = (Bo (!β1)) := hF.1
    have h13_ : (!β1) = true → v12 = (Bo β2) := hF.2.1
    clear hF
    refine doesG_un rfl ?_
    skip
    obtain rfl := h10_
    refine (does_pick (b := (!β1)) (u := v12) (v := (Bo false)) (ev rfl) (ev rfl) (ev rfl)).mono ?_; rintro _ _ ⟨rfl, rfl⟩; refine ⟨?_, Ext.refl _⟩; skip
    cases hbb : (!β1)
    all_goals first | (show _ = _; simp only [↓reduceIte, Bool.true_and, Bool.false_and, Bool.true_or, Bool.false_or, Bool.false_eq_true]; done) | (have e_ := h13_ hbb; subst e_; show _ = _; simp only [↓reduceIte, Bool.true_and, Bool.false_and, Bool.true_or, Bool.false_or, Bool.false_eq_true]; done) | rfl | (have e_ := h13_ hbb; subst e_; rfl) | (simp [hbb] at h13_ ⊢; first | done | rfl | (subst h13_; rfl) | simp_all) | (simp [hbb] at h13_ ⊢; done)
  refine RW_d (fun v14 => [(.slice p_ctr L_ctr.length q_ctr), (.slice p_rad L_rad.length q_rad), Ud, Ud, (Bo false), (Bo (L_rad.any (fun x => badR x))), (.slice p_rad L_rad.length q_rad), (Bo (L_rad.any (fun x => badR x))), v7, v8, v9, v10, v11, v12, v13, v14, Ud, Ud, Ud, Ud, Ud, Ud]) rfl (fun _ => rfl) (fun u hu hF => ?_) (fun v14 => ?_)
  · have h14_ : v13 = (Bo ((!β1) && β2)) := hF.1
    clear hF
    refine doesG_un rfl ?_
    obtain rfl := h14_
    refine (does_move (u := (Bo ((!β1) && β2))) (ev rfl)).mono ?_; rintro _ _ ⟨rfl, rfl⟩
    exact ⟨rfl, Ext.refl _⟩
  refine RW_d (fun v15 => [(.slice p_ctr L_ctr.length q_ctr), (.slice p_rad L_rad.length q_rad), Ud, Ud, (Bo false), (Bo (L_rad.any (fun x => badR x))), (.slice p_rad L_rad.length q_rad), (Bo (L_rad.any (fun x => badR x))), v7, v8, v9, v10, v11, v12, v13, v14, v15, Ud, Ud, Ud, Ud, Ud]) rfl (fun _ => rfl) (fun u hu hF => ?_) (fun v15 => ?_)
  · have h15_ : v14 = (Bo ((!β1) && β2)) := hF.1
    clear hF
    obtain rfl := h15_
    refine doesG_g (b := ((!β1) && β2)) rfl (yld rfl rfl) (fun hg1 => ?_) (fun hc => ⟨fun hg1 => absurd hg1 hc, Ext.refl _⟩)
    refine (does_move (u := (.slice p_rad L_rad.length q_rad)) (ev rfl)).mono ?_; rintro _ _ ⟨rfl, rfl⟩
    exact ⟨fun _ => rfl, Ext.refl _⟩
  refine RW_d (fun v16 => [(.slice p_ctr L_ctr.length q_ctr), (.slice p_rad L_rad.length q_rad), Ud, Ud, (Bo false), (Bo (L_rad.any (fun x => badR x))), (.slice p_rad L_rad.length q_rad), (Bo (L_rad.any (fun x => badR x))), v7, v8, v9, v10, v11, v12, v13, v14, v15, v16, Ud, Ud, Ud, Ud]) rfl (fun _ => rfl) (fun u hu hF => ?_) (fun v16 => ?_)
  · have h16_ : ((!β1) && β2) = true → v15 = (.slice p_rad L_rad.length q_rad) := hF.1
    have h15_ : v14 = (Bo ((!β1) && β2)) := hF.2.1
    clear hF
    obtain rfl := h15_
    refine doesG_g (b := ((!β1) && β2)) rfl (yld rfl rfl) (fun hg1 => ?_) (fun hc => ⟨fun hg1 => absurd hg1 hc, Ext.refl _⟩)
    obtain rfl := h16_ hg1
    refine (does_len_slice Try.underlying25 (ev rfl)).mono ?_; rintro _ _ ⟨rfl, rfl⟩
    exact ⟨fun _ => rfl, Ext.refl _⟩
  refine RW_d (fun v17 => [(.slice p_ctr L_ctr.length q_ctr), (.slice p_rad L_rad.length q_rad), Ud, Ud, (Bo false), (Bo (L_rad.any (fun x => badR x))), (.slice p_rad L_rad.length q_rad), (Bo (L_rad.any (fun x => badR x))), v7, v8, v9, v10, v11, v12, v13, v14, v15, v16, v17, Ud, Ud, Ud]) rfl (fun _ => rfl) (fun u hu hF => ?_) (fun v17 => ?_)
  · have h15_ : v14 = (Bo ((!β1) && β2)) := hF.1
    clear hF
    obtain rfl := h15_
    refine doesG_g (b := ((!β1) && β2)) rfl (yld rfl rfl) (fun hg1 => ?_) (fun hc => ⟨fun hg1 => absurd hg1 hc, Ext.refl _⟩)
    refine (does_move (u := (.slice p_ctr L_ctr.length q_ctr)) (ev rfl)).mono ?_; rintro _ _ ⟨rfl, rfl⟩
    exact ⟨fun _ => rfl, Ext.refl _⟩
  refine RW_d (fun v18 => [(.slice p_ctr L_ctr.length q_ctr), (.slice p_rad L_rad.length q_rad), Ud, Ud, (Bo false), (Bo (L_rad.any (fun x => badR x))), (.slice p_rad L_rad.length q_rad), (Bo (L_rad.any (fun x => badR x))), v7, v8, v9, v10, v11, v12, v13, v14, v15, v16, v17, v18, Ud, Ud]) rfl (fun _ => rfl) (fun u hu hF => ?_) (fun v18 => ?_)
  · have h18_ : ((!β1) && β2) = true → v17 = (.slice p_ctr L_ctr.length q_ctr) := hF.1
    have h15_ : v14 = (Bo ((!β1) && β2)) := hF.2.1
    clear hF
    obtain rfl := h15_
    refine doesG_g (b := ((!β1) && β2)) rfl (yld rfl rfl) (fun hg1 => ?_) (fun hc => ⟨fun hg1 => absurd hg1 hc, Ext.refl _⟩)
    obtain rfl := h18_ hg1
    refine (does_len_slice Try.underlying47 (ev rfl)).mono ?_; rintro _ _ ⟨rfl, rfl⟩
    exact ⟨fun _ => rfl, Ext.refl _⟩
  refine RW_d (fun v19 => [(.slice p_ctr L_ctr.length q_ctr), (.slice p_rad L_rad.length q_rad), Ud, Ud, (Bo false), (Bo (L_rad.any (fun x => badR x))), (.slice p_rad L_rad.length q_rad), (Bo (L_rad.any (fun x => badR x))), v7, v8, v9, v10, v11, v12, v13, v14, v15, v16, v17, v18, v19, Ud]) rfl (fun _ => rfl) (fun u hu hF => ?_) (fun v19 => ?_)
  · have h17_ : ((!β1) && β2) = true → v16 = (Iv (L_rad.length : Int)) := hF.1
    have h19_ : ((!β1) && β2) = true → v18 = (Iv (L_ctr.length : Int)) := hF.2.1
    have h15_ : v14 = (Bo ((!β1) && β2)) := hF.2.2.1
    clear hF
    obtain rfl := h15_
    refine doesG_g (b := ((!β1) && β2)) rfl (yld rfl rfl) (fun hg1 => ?_) (fun hc => ⟨fun hg1 => absurd hg1 hc, Ext.refl _⟩)
    obtain rfl := h17_ hg1
    obtain rfl := h19_ hg1
    refine (does_icmp (p := (L_rad.length : Int)) (q := (L_ctr.length : Int)) (.inl rfl) (ev rfl) (ev rfl)).mono ?_; rintro _ _ ⟨rfl, rfl⟩
    exact ⟨fun _ => (by first | rfl | (show _ = _; simp only [hβ3]; done) | (show _ = _; simp only [hβ3]; rfl)), Ext.refl _⟩
  refine RW_d (fun v20 => [(.slice p_ctr L_ctr.length q_ctr), (.slice p_rad L_rad.length q_rad), Ud, Ud, (Bo false), (Bo (L_rad.any (fun x => badR x))), (.slice p_rad L_rad.length q_rad), (Bo (L_rad.any (fun x => badR x))), v7, v8, v9, v10, v11, v12, v13, v14, v15, v16, v17, v18, v19, v20]) rfl (fun _ => rfl) (fun u hu hF => ?_) (fun v20 => ?_)
  · have h15_ : v14 = (Bo ((!β1) && β2)) := hF.1
    have h20_ : ((!β1) && β2) = true → v19 = (Bo β3) := hF.2.1
    clear hF
    refine doesG_un rfl ?_
    skip
    obtain rfl := h15_
    refine (does_pick (b := ((!β1) && β2)) (u := v19) (v := (Bo false)) (ev rfl) (ev rfl) (ev rfl)).mono ?_; rintro _ _ ⟨rfl, rfl⟩; refine ⟨?_, Ext.refl _⟩; skip
    cases hbb : ((!β1) && β2)
    all_goals first | (show _ = _; simp only [↓reduceIte, Bool.true_and, Bool.false_and, Bool.true_or, Bool.false_or, Bool.false_eq_true]; done) | (have e_ := h20_ hbb; subst e_; show _ = _; simp only [↓reduceIte, Bool.true_and, Bool.false_and, Bool.true_or, Bool.false_or, Bool.false_eq_true]; done) | rfl | (have e_ := h20_ hbb; subst e_; rfl) | (simp [hbb] at h20_ ⊢; first | done | rfl | (subst h20_; rfl) | simp_all) | (simp [hbb] at h20_ ⊢; done)
  refine RW_fin ?_; intro w21 E22 hP23
  obtain ⟨⟨⟨⟨⟨⟨⟨⟨⟨⟨⟨⟨⟨⟨-, -⟩, -⟩, -⟩, -⟩, -⟩, -⟩, -⟩, -⟩, -⟩, -⟩, -⟩, -⟩, -⟩, q24⟩ := hP23
  have X25 := Ext.gr X5 E22
  have q24 : v20 = (Bo (((!β1) && β2) && β3)) := q24
  obtain rfl := q24
  show wpList _ _ _ _ (fr [(.slice p_ctr L_ctr.length q_ctr), (.slice p_rad L_rad.length q_rad), Ud, Ud, (Bo false), (Bo (L_rad.any (fun x => badR x))), (.slice p_rad L_rad.length q_rad), (Bo (L_rad.any (fun x => badR x))), v7, v8, v9, v10, v11, v12, v13, v14, v15, v16, v17, v18, v19, (Bo (((!β1) && β2) && β3))]) _
  refine q_is (l' := [(.slice p_ctr L_ctr.length q_ctr), (.slice p_rad L_rad.length q_rad), Ud, Ud, (Bo (((!β1) && β2) && β3)), (Bo (L_rad.any (fun x => badR x))), (.slice p_rad L_rad.length q_rad), (Bo (L_rad.any (fun x => badR x))), v7, v8, v9, v10, v11, v12, v13, v14, v15, v16, v17, v18, v19, (Bo (((!β1) && β2) && β3))]) rfl rfl (does_assign (u := (Bo (((!β1) && β2) && β3))) (ev rfl)) rfl ?_
  refine wpList_nil (hK6 _ _ ?_)
  refine wp_ret ?_
  refine ret_val (v := (Bo (((!β1) && β2) && β3))) (res_T rfl (slot rfl)) X25 ?_
  have x26 : (okBalls L_ctr L_rad) = (((!β1) && β2) && β3) := by simp only [okBalls, inI, okBalls, inI, hβ1, hβ2, hβ3]; first | rfl | ac_rfl
  exact (by first | with_reducible rfl | rw [x26] | rfl)

/- impl.roundsOk -/
theorem c_impl_roundsOk (n_ : Int) (w : World) : Gives Try.prog 58 #[(Iv n_)] w (fun v w' => v = (Bo (inI n_ 0 64))) := by
  refine enter [(Iv n_), Ud, Ud, Ud, Ud] Try.func58 rfl Try.ntmps58 rfl ?_
  refine wp_seq_k fun K1 hK1 => ?_
  refine wp_region_lit ?_
  refine q_is (l' := [(Iv n_), Ud, (Bo false), Ud, Ud]) rfl rfl (does_assign (u := (Bo false)) (ev rfl)) rfl ?_
  refine wpList_nil (hK1 _ _ ?_)
  refine wp_seq_k fun K2 hK2 => ?_
  refine wp_region_lit ?_
  refine q_is (l' := [(Iv n_), Ud, (Bo false), (Iv n_), Ud]) rfl rfl (does_move (u := (Iv n_)) (ev rfl)) rfl ?_
  refine seqd rfl rfl (does_call (args := #[(Iv n_), (Iv 0), (Iv 64)]) cal72 (evs rfl) (c_impl_in n_ 0 64 _)) ?_; rintro _ w4 ⟨E3, rfl⟩
  have X5 := Ext.gr (Ext.refl w) E3
  show wpList _ _ _ _ (fr [(Iv n_), Ud, (Bo false), (Iv n_), (Bo (inI n_ 0 64))]) _
  refine q_is (l' := [(Iv n_), Ud, (Bo (inI n_ 0 64)), (Iv n_), (Bo (inI n_ 0 64))]) rfl rfl (does_assign (u := (Bo (inI n_ 0 64))) (ev rfl)) rfl ?_
  refine wpList_nil (hK2 _ _ ?_)
  refine wp_ret ?_
  refine ret_val (v := (Bo (inI n_ 0 64))) (res_T rfl (slot rfl)) X5 ?_
  exact rfl

/- slices.Clone[[]impl.Vector,impl.Vector] -/
theorem c_slices_Clone_impl_Vector_impl_Vector (xs : Value) (L_xs : List V3) (w : World) (hv_xs : Sl RV3 3 w xs L_xs) (hne : 0 < L_xs.length ∧ L_xs.length ≤ 1048576) : Gives Try.prog 59 #[xs] w (fun v w' => ∃ y_1 : Value, ∃ Lw_2 : List Nat, v = y_1 ∧ Hang w.heap.size w' (fun u => Sl RV3 3 u y_1 L_xs) ∧ WL 3 w.heap.size w' Lw_2 y_1 L_xs.length) := by
  have hlen_xs := Sl.len hv_xs; obtain ⟨p_xs, q_xs, rfl⟩ := Sl.shape hv_xs
  have hso := Sl.some_of hv_xs hne.1
  refine enter [(.slice p_xs L_xs.length q_xs), Ud, Ud, Ud, Ud, Ud, Ud, Ud] Try.func59 rfl Try.ntmps59 rfl ?_
  refine wp_seq_k fun K1 hK1 => ?_
  refine wp_region_lit ?_
  refine q_is (l' := [(.slice p_xs L_xs.length q_xs), Ud, (.slice none 0 0), Ud, Ud, Ud, Ud, Ud]) rfl rfl (does_assign (u := (.slice none 0 0)) (ev rfl)) rfl ?_
  refine wpList_nil (hK1 _ _ ?_)
  refine wp_seq_k fun K2 hK2 => ?_
  refine wp_seq_k fun K3 hK3 => ?_
  refine wp_region_lit ?_
  refine q_is (l' := [(.slice p_xs L_xs.length q_xs), Ud, (.slice none 0 0), (.slice p_xs L_xs.length q_xs), Ud, Ud, Ud, Ud]) rfl rfl (does_move (u := (.slice p_xs L_xs.length q_xs)) (ev rfl)) rfl ?_
  refine q_is (l' := [(.slice p_xs L_xs.length q_xs), Ud, (.slice none 0 0), (.slice p_xs L_xs.length q_xs), (Bo p_xs.isNone), Ud, Ud, Ud]) rfl rfl (does_slnil Try.underlying47 (ev rfl) (ev rfl)) rfl ?_
  refine wpList_nil (hK3 _ _ ?_)
  refine wp_cond_split (t := p_xs.isNone) (ev rfl) (fun c4 => ?_) (fun c4 => ?_)
  · have c4' := c4
    rw [hso] at c4; cases c4
  have c4' := c4
  refine wp_skip (hK2 _ _ ?_)
  refine wp_seq_k fun K5 hK5 => ?_
  refine wp_region_lit ?_
  refine seqd rfl rfl (does_slice0 (e := 32) (fun _ => by kernel_rfl)) ?_; rintro _ w11 ⟨b6, rfl, hb7, hl8, hO9, E10⟩
  have X12 := Ext.gr (Ext.refl w) E10
  have hO13 := hO9 _ RV3 3
  have hH14 : Hang w.heap.size w11 (fun u => Sl RV3 3 u (.slice (some ⟨b6, 0, none⟩) 0 0) ([])) := Own.hang hO13 RV3.flat (by decide) hb7 (Below.size E10)
  show wpList _ _ _ _ (fr [(.slice p_xs L_xs.length q_xs), Ud, (.slice none 0 0), (.slice p_xs L_xs.length q_xs), (Bo p_xs.isNone), (.slice (some ⟨b6, 0, none⟩) 0 0), Ud, Ud]) _
  refine q_is (l' := [(.slice p_xs L_xs.length q_xs), Ud, (.slice none 0 0), (.slice p_xs L_xs.length q_xs), (Bo p_xs.isNone), (.slice (some ⟨b6, 0, none⟩) 0 0), (.slice p_xs L_xs.length q_xs), Ud]) rfl rfl (does_move (u := (.slice p_xs L_xs.length q_xs)) (ev rfl)) rfl ?_
  refine seqd rfl rfl (does_appendS (R := RV3) (k := 3) (g0 := b6) (B := w11.heap.size) (xs := ([])) (ys := L_xs) Try.underlying47 inf32 rfl (by decide) oneV3 (ev rfl) (ev rfl) hO13 RV3.flat (Sl.ext hv_xs RV3.mono X12) (by omega) (by first | (simp only [List.length_nil]; omega) | omega) (Nat.le_refl _)) ?_; rintro y' w15 ⟨gg16, hg17, K18, hO19⟩
  have hN20 : w.heap.size ≤ gg16 := by rcases hg17 with h | h; exact h ▸ hb7; exact Nat.le_trans (Below.size E10) h
  have g21 : w.heap.size ≤ gg16 := Nat.le_trans (Nat.le_refl _) hN20
  have X22 := Below.kl X12 K18 (allS g21 all0) (Nat.le_refl _)
  replace hO19 := hO19.cast (List.nil_append _)
  obtain ⟨p23, q24, rfl⟩ := Own.shape hO19
  have hH25 : Hang w.heap.size w15 (fun u => Sl RV3 3 u (.slice p23 L_xs.length q24) L_xs) := Own.hang hO19 RV3.flat (by decide) hb7 (Below.size E10)
  show wpList _ _ _ _ (fr [(.slice p_xs L_xs.length q_xs), Ud, (.slice none 0 0), (.slice p_xs L_xs.length q_xs), (Bo p_xs.isNone), (.slice (some ⟨b6, 0, none⟩) 0 0), (.slice p_xs L_xs.length q_xs), (.slice p23 L_xs.length q24)]) _
  refine q_is (l' := [(.slice p_xs L_xs.length q_xs), Ud, (.slice p23 L_xs.length q24), (.slice p_xs L_xs.length q_xs), (Bo p_xs.isNone), (.slice (some ⟨b6, 0, none⟩) 0 0), (.slice p_xs L_xs.length q_xs), (.slice p23 L_xs.length q24)]) rfl rfl (does_assign (u := (.slice p23 L_xs.length q24)) (ev rfl)) rfl ?_
  refine wpList_nil (hK5 _ _ ?_)
  refine wp_ret ?_
  refine ret_val (v := (.slice p23 L_xs.length q24)) (res_T rfl (slot rfl)) X22 ?_
  obtain ⟨Lw26, hw27⟩ : ∃ L, WL 3 w.heap.size w15 L (.slice p23 L_xs.length q24) L_xs.length := Own.wl hO19 (Nat.le_trans (Nat.le_refl _) hb7) (Nat.le_trans (Nat.le_refl _) (Below.size E10))
  exact ⟨(.slice p23 L_xs.length q24), Lw26, rfl, (Own.hang hO19 RV3.flat (by decide) (Nat.le_trans (Nat.le_refl _) hb7) (Nat.le_trans (Nat.le_refl _) (Below.size E10))), hw27⟩

/- impl.ballPairs -/
theorem c_impl_ballPairs (n : Int) (w : World) (hn0 : 0 ≤ n ∧ n ≤ 16) : Gives Try.prog 60 #[(Iv n)] w (fun v w' => ∃ y_1 : Value, v = y_1 ∧ Hang w.heap.size w' (fun u => Sl RP 2 u y_1 (pairsTo n.toNat n.toNat))) := by
  refine enter [(Iv n), Ud, Ud, Ud, Ud, Ud, Ud, Ud, Ud, Ud, Ud, Ud, Ud, Ud, Ud, Ud, Ud, Ud, Ud, Ud, Ud, Ud, Ud, Ud, Ud, Ud] Try.func60 rfl Try.ntmps60 rfl ?_
  refine wp_seq_k fun K1 hK1 => ?_
  refine wp_region_lit ?_
  refine q_is rfl rfl (does_assign (u := (.slice none 0 0)) (ev rfl)) (by dsimp only [List.set]; try rfl) ?_
  refine wpList_nil (hK1 _ _ ?_)
  refine wp_seq_k fun K2 hK2 => ?_
  refine wp_region_lit ?_
  refine seqd rfl rfl (does_slice0 (e := 91) (fun _ => by kernel_rfl)) ?_; rintro _ w8 ⟨b3, rfl, hb4, hl5, hO6, E7⟩
  have X9 := Ext.gr (Ext.refl w) E7
  have hO10 := hO6 _ RP 2
  have hH11 : Hang w.heap.size w8 (fun u => Sl RP 2 u (.slice (some ⟨b3, 0, none⟩) 0 0) ([])) := Own.hang hO10 RP.flat (by decide) hb4 (Below.size E7)
  show wpList _ _ _ _ (fr [_, _, _, _, _, _, _, _, _, _, _, _, _, _, _, _, _, _, _, _, _, _, _, _, _, _]) _
  refine q_is rfl rfl (does_assign (u := (.slice (some ⟨b3, 0, none⟩) 0 0)) (ev rfl)) (by dsimp only [List.set]; try rfl) ?_
  refine wpList_nil (hK2 _ _ ?_)
  refine wp_seq_k fun K12 hK12 => ?_
  refine wp_seq_k fun K13 hK13 => ?_
  refine wp_region_lit ?_
  refine q_is rfl rfl (does_move (u := (Iv n)) (ev rfl)) (by dsimp only [List.set]; try rfl) ?_
  refine q_is rfl rfl (does_move (u := (Iv 0)) (ev rfl)) (by dsimp only [List.set]; try rfl) ?_
  refine wpList_nil (hK13 _ _ ?_)
  refine wp_block ?_
  obtain ⟨gg15, hg16, hg17, hO18⟩ := Own.start' hO10 hO10
  have hN19 : w.heap.size ≤ gg15 := by rcases hg16 with h | h; exact h ▸ hb4; exact Nat.le_trans (Below.size E7) h
  have g20 : w.heap.size ≤ gg15 := Nat.le_trans (Nat.le_refl _) hN19
  have hg21 : gg15 < w8.heap.size := by rcases hg17 with h | h; exact h ▸ Nat.lt_of_lt_of_le hl5 (Nat.le_refl _); exact h
  refine loop_ghost (σ := Nat) (fun k a w' => ∃ u14 : Nat → Value, ∃ y3 : Value, a = fr [(Iv n), Ud, (.slice none 0 0), y3, (u14 4), (u14 5), (.slice (some ⟨b3, 0, none⟩) 0 0), (Iv n), (Iv (k : Int)), (u14 9), (u14 10), (u14 11), (u14 12), (u14 13), (u14 14), (u14 15), (u14 16), (u14 17), (u14 18), (u14 19), (u14 20), (u14 21), (u14 22), (u14 23), (u14 24), Ud] ∧ KpL [gg15] w8 w' ∧ Own RP 2 91 gg15 w8.heap.size w' y3 (pairsTo n.toNat k) ∧ ((k : Int) ≤ n)) (fun k => n.toNat - k) 0 ?_ ?_
  · refine ⟨fun t => (([(Iv n), Ud, (.slice none 0 0), (.slice (some ⟨b3, 0, none⟩) 0 0), Ud, Ud, (.slice (some ⟨b3, 0, none⟩) 0 0), (Iv n), (Iv 0), Ud, Ud, Ud, Ud, Ud, Ud, Ud, Ud, Ud, Ud, Ud, Ud, Ud, Ud, Ud, Ud, Ud] : List Value)[t]?).getD undef, (.slice (some ⟨b3, 0, none⟩) 0 0), rfl, KpL.refl _ _, (Own.cast hO18 (by rfl)), ?_⟩
    exact hn0.1
  · rintro k a w22 ⟨u14, y3, rfl, E23, hO25, hk⟩
    have X26 := Below.kl X9 E23 (allS g20 all0) (Nat.le_refl _)
    obtain ⟨p27, q28, rfl⟩ := Own.shape hO25
    have hH29 : Hang w.heap.size w22 (fun u => Sl RP 2 u (.slice p27 ((pairsTo n.toNat k).length) q28) (pairsTo n.toNat k)) := Own.hang hO25 RP.flat (by decide) hN19 (Below.size E7)
    have hpl := pairsTo_len n.toNat (by omega) k
    refine wp_seq_k fun K30 hK30 => ?_
    refine wp_region_lit ?_
    refine q_is rfl rfl (does_icmp (p := (k : Int)) (q := n) (.inr (.inr (.inl rfl))) (ev rfl) (ev rfl)) (by dsimp only [List.set]; try rfl) ?_
    refine wpList_nil (hK30 _ _ ?_)
    refine wp_seq_k fun K31 hK31 => ?_
    refine wp_cond_split (t := icmp .lss (k : Int) n) (ev rfl) (fun c32 => ?_) (fun c32 => ?_)
    · have c32' := c32
      (try simp only [icmp, Bool.and_eq_true, Bool.or_eq_true, Bool.and_eq_false_iff, Bool.or_eq_false_iff, Bool.not_eq_true', Bool.not_eq_false', decide_eq_true_eq, decide_eq_false_iff_not, beq_iff_eq, bne_iff_ne, beq_eq_false_iff_ne, bne_eq_false_iff_eq] at c32')
      refine wp_skip (hK31 _ _ ?_)
      refine wp_seq_k fun K33 hK33 => ?_
      refine wp_block ?_
      refine wp_seq_k fun K34 hK34 => ?_
      refine wp_region_lit ?_
      refine q_is rfl rfl (does_move (u := (Iv (k : Int))) (ev rfl)) (by dsimp only [List.set]; try rfl) ?_
      refine q_is rfl rfl (does_assign (u := (Iv (k : Int))) (ev rfl)) (by dsimp only [List.set]; try rfl) ?_
      refine wpList_nil (hK34 _ _ ?_)
      refine wp_seq_k fun K35 hK35 => ?_
      refine wp_region_lit ?_
      refine q_is rfl rfl (does_move (u := (Iv (k : Int))) (ev rfl)) (by dsimp only [List.set]; try rfl) ?_
      refine q_is rfl rfl (does_iarith (p := (k : Int)) (q := 1) (r := (k : Int) + 1) (ev rfl) (ev rfl) (.inl ⟨rfl, (in_i64 (by omega) (by omega)).symm⟩)) (by dsimp only [List.set]; try rfl) ?_
      refine q_is rfl rfl (does_assign (u := (Iv ((k : Int) + 1))) (ev rfl)) (by dsimp only [List.set]; try rfl) ?_
      refine wpList_nil (hK35 _ _ ?_)
      refine wp_block ?_
      obtain ⟨gg37, hg38, hg39, hO40⟩ := Own.start' hO25 hO25
      have hN41 : w.heap.size ≤ gg37 := by rcases hg38 with h | h; exact h ▸ hN19; exact Nat.le_trans (Below.size E7) h
      have g42 : w.heap.size ≤ gg37 := Nat.le_trans (Nat.le_refl _) hN41
      have hg43 : gg37 < w22.heap.size := by rcases hg39 with h | h; exact h ▸ Nat.lt_of_lt_of_le hg21 (KpL.size E23); exact h
      refine loop_ghost (σ := Nat) (fun j a w' => ∃ u36 : Nat → Value, ∃ y3 : Value, a = fr [(Iv n), Ud, (.slice none 0 0), y3, (Iv (k : Int)), (Iv (j : Int)), (.slice (some ⟨b3, 0, none⟩) 0 0), (Iv n), (Iv (k : Int)), (Bo (icmp .lss (k : Int) n)), (Iv (k : Int)), (Iv (k : Int)), (Iv ((k : Int) + 1)), (u36 13), (u36 14), (u36 15), (u36 16), (u36 17), (u36 18), (u36 19), (u36 20), (u36 21), (u36 22), (u36 23), (u14 24), Ud] ∧ KpL [gg37] w22 w' ∧ Own RP 2 91 gg37 w22.heap.size w' y3 (pairsTo n.toNat k ++ rowP k j) ∧ (k < j ∧ (j : Int) ≤ n)) (fun j => n.toNat - j) (k + 1) ?_ ?_
      · refine ⟨fun t => (([(Iv n), Ud, (.slice none 0 0), (.slice p27 ((pairsTo n.toNat k).length) q28), (Iv (k : Int)), (Iv ((k : Int) + 1)), (.slice (some ⟨b3, 0, none⟩) 0 0), (Iv n), (Iv (k : Int)), (Bo (icmp .lss (k : Int) n)), (Iv (k : Int)), (Iv (k : Int)), (Iv ((k : Int) + 1)), (u14 13), (u14 14), (u14 15), (u14 16), (u14 17), (u14 18), (u14 19), (u14 20), (u14 21), (u14 22), (u14 23), (u14 24), Ud] : List Value)[t]?).getD undef, (.slice p27 ((pairsTo n.toNat k).length) q28), rfl, KpL.refl _ _, (Own.cast hO40 (by (try dsimp only); rw [rowP_le (Nat.le_refl _), List.append_nil])), ?_⟩
        omega
      · rintro j a w44 ⟨u36, y3, rfl, E45, hO47, ⟨hkj, hj⟩⟩
        have X48 := Below.kl X26 E45 (allS g42 all0) (Nat.le_refl _)
        obtain ⟨p49, q50, rfl⟩ := Own.shape hO47
        have hH51 : Hang w.heap.size w44 (fun u => Sl RP 2 u (.slice p49 ((pairsTo n.toNat k ++ rowP k j).length) q50) (pairsTo n.toNat k ++ rowP k j)) := Own.hang hO47 RP.flat (by decide) hN41 (Nat.le_trans (Below.size E7) (KpL.size E23))
        have hrl := rowP_len k j
        refine wp_seq_k fun K52 hK52 => ?_
        refine wp_seq_k fun K53 hK53 => ?_
        refine wp_region_lit ?_
        refine q_is rfl rfl (does_move (u := (Iv (j : Int))) (ev rfl)) (by dsimp only [List.set]; try rfl) ?_
        refine q_is rfl rfl (does_move (u := (Iv n)) (ev rfl)) (by dsimp only [List.set]; try rfl) ?_
        refine q_is rfl rfl (does_icmp (p := (j : Int)) (q := n) (.inr (.inr (.inl rfl))) (ev rfl) (ev rfl)) (by dsimp only [List.set]; try rfl) ?_
        refine wpList_nil (hK53 _ _ ?_)
        refine wp_cond_split (t := icmp .lss (j : Int) n) (ev rfl) (fun c54 => ?_) (fun c54 => ?_)
        · have c54' := c54
          (try simp only [icmp, Bool.and_eq_true, Bool.or_eq_true, Bool.and_eq_false_iff, Bool.or_eq_false_iff, Bool.not_eq_true', Bool.not_eq_false', decide_eq_true_eq, decide_eq_false_iff_not, beq_iff_eq, bne_iff_ne, beq_eq_false_iff_ne, bne_eq_false_iff_eq] at c54')
          refine wp_skip (hK52 _ _ ?_)
          refine wp_seq_k fun K55 hK55 => ?_
          refine wp_block ?_
          refine wp_region_lit ?_
          refine q_is rfl rfl (does_move (u := (.slice p49 ((pairsTo n.toNat k ++ rowP k j).length) q50)) (ev rfl)) (by dsimp only [List.set]; try rfl) ?_
          refine q_is rfl rfl (does_move (u := (Iv (k : Int))) (ev rfl)) (by dsimp only [List.set]; try rfl) ?_
          refine q_is rfl rfl (does_move (u := (Iv (j : Int))) (ev rfl)) (by dsimp only [List.set]; try rfl) ?_
          refine q_is rfl rfl (does_build (parts' := [(0, (Iv (k : Int))), (1, (Iv (j : Int)))]) (cells := #[(Iv (k : Int)), (Iv (j : Int))]) (evp rfl) (by kernel_rfl)) (by dsimp only [List.set]; try rfl) ?_
          refine seqd rfl rfl (does_buildSlice (e := 91) (parts' := [(0, (.agg #[(Iv (k : Int)), (Iv (j : Int))]))]) (cells := [(Iv (k : Int)), (Iv (j : Int))]) (evp rfl) (fun _ => by kernel_rfl)) ?_; rintro _ w60 ⟨b56, rfl, hb57, hB58, E59⟩
          have g61 : w.heap.size ≤ b56 := Nat.le_trans (Below.size X48) hb57
          have X62 := Ext.gr X48 E59
          show wpList _ _ _ _ (fr [_, _, _, _, _, _, _, _, _, _, _, _, _, _, _, _, _, _, _, _, _, _, _, _, _, _]) _
          refine seqd rfl rfl (does_append (R := RP) (k := 2) (g0 := gg37) (B := w22.heap.size) (xs := (pairsTo n.toNat k ++ rowP k j)) (ys := [((k : Int), (j : Int))]) Try.underlying89 inf91 rfl (by decide) (ev rfl) (ev rfl) (Own.same hO47 RP.flat ((Same.refl _ _).ext E59) hN41 (Nat.le_trans (Below.size E7) (KpL.size E23))) RP.flat hB58 rfl rfl rfl (fun i x hi => lit1 (R := RP) (cs := [(Iv (k : Int)), (Iv (j : Int))]) (y := ((k : Int), (j : Int)))  rfl i x hi) (by first | (simp only [List.length_append, List.length_cons, List.length_nil]; omega) | omega) (Nat.le_trans (KpL.size E45) (Below.size E59))) ?_; rintro y' w63 ⟨gg64, hg65, K66, hO67⟩
          have hN68 : w.heap.size ≤ gg64 := by rcases hg65 with h | h; exact h ▸ hN41; exact Nat.le_trans (Nat.le_trans (Below.size E7) (KpL.size E23)) h
          have g69 : w.heap.size ≤ gg64 := Nat.le_trans (Nat.le_refl _) hN68
          have X70 := Below.kl X62 K66 (allS g69 all0) (Nat.le_refl _)
          obtain ⟨p71, q72, rfl⟩ := Own.shape hO67
          have hH73 : Hang w.heap.size w63 (fun u => Sl RP 2 u (.slice p71 (((pairsTo n.toNat k ++ rowP k j) ++ [((k : Int), (j : Int))]).length) q72) ((pairsTo n.toNat k ++ rowP k j) ++ [((k : Int), (j : Int))])) := Own.hang hO67 RP.flat (by decide) hN41 (Nat.le_trans (Below.size E7) (KpL.size E23))
          show wpList _ _ _ _ (fr [_, _, _, _, _, _, _, _, _, _, _, _, _, _, _, _, _, _, _, _, _, _, _, _, _, _]) _
          refine q_is rfl rfl (does_assign (u := (.slice p71 (((pairsTo n.toNat k ++ rowP k j) ++ [((k : Int), (j : Int))]).length) q72)) (ev rfl)) (by dsimp only [List.set]; try rfl) ?_
          refine wpList_nil (hK55 _ _ ?_)
          refine wp_region_lit ?_
          refine q_is rfl rfl (does_move (u := (Iv (j : Int))) (ev rfl)) (by dsimp only [List.set]; try rfl) ?_
          refine q_is rfl rfl (does_iarith (p := (j : Int)) (q := 1) (r := (j : Int) + 1) (ev rfl) (ev rfl) (.inl ⟨rfl, (in_i64 (by omega) (by omega)).symm⟩)) (by dsimp only [List.set]; try rfl) ?_
          refine q_is rfl rfl (does_assign (u := (Iv ((j : Int) + 1))) (ev rfl)) (by dsimp only [List.set]; try rfl) ?_
          refine wpList_nil ?_
          have hO74 := Own.cast (ys := ((fun (j : Nat) => pairsTo n.toNat k ++ rowP k j) (j + 1))) hO67 (by (try dsimp only); (try dsimp only); rw [rowP_succ hkj, List.append_assoc])
          refine ⟨j + 1, ⟨fun t => (([(Iv n), Ud, (.slice none 0 0), (.slice p71 (((pairsTo n.toNat k ++ rowP k j) ++ [((k : Int), (j : Int))]).length) q72), (Iv (k : Int)), (Iv ((j : Int) + 1)), (.slice (some ⟨b3, 0, none⟩) 0 0), (Iv n), (Iv (k : Int)), (Bo (icmp .lss (k : Int) n)), (Iv (k : Int)), (Iv (k : Int)), (Iv ((k : Int) + 1)), (Iv (j : Int)), (Iv n), (Bo (icmp .lss (j : Int) n)), (Iv (j : Int)), (Iv ((j : Int) + 1)), (.slice p49 ((pairsTo n.toNat k ++ rowP k j).length) q50), (Iv (k : Int)), (Iv (j : Int)), (.agg #[(Iv (k : Int)), (Iv (j : Int))]), (.slice (some ⟨b56, 0, none⟩) 1 1), (.slice p71 (((pairsTo n.toNat k ++ rowP k j) ++ [((k : Int), (j : Int))]).length) q72), (u14 24), Ud] : List Value)[t]?).getD undef, (.slice p71 (((pairsTo n.toNat k ++ rowP k j) ++ [((k : Int), (j : Int))]).length) q72), ?_, (KpL.more (KpL.ext E45 E59) K66 (allS (hg65.imp (fun h => by simp [h]) id) all0)), hO74, ?_⟩, ?_⟩
          · first | rfl | (simp only [Nat.cast_add, Nat.cast_one, Int.natCast_add, Int.natCast_one]; rfl)
          · (try dsimp only); omega
          · (try dsimp only); omega
        have c54' := c54
        (try simp only [icmp, Bool.and_eq_true, Bool.or_eq_true, Bool.and_eq_false_iff, Bool.or_eq_false_iff, Bool.not_eq_true', Bool.not_eq_false', decide_eq_true_eq, decide_eq_false_iff_not, beq_iff_eq, bne_iff_ne, beq_eq_false_iff_ne, bne_eq_false_iff_eq] at c54')
        refine wp_exit ?_
        refine hK33 _ _ ?_
        refine wp_region_lit ?_
        refine q_is rfl rfl (does_iarith (p := (k : Int)) (q := 1) (r := (k : Int) + 1) (ev rfl) (ev rfl) (.inl ⟨rfl, (in_i64 (by omega) (by omega)).symm⟩)) (by dsimp only [List.set]; try rfl) ?_
        refine q_is rfl rfl (does_move (u := (Iv ((k : Int) + 1))) (ev rfl)) (by dsimp only [List.set]; try rfl) ?_
        refine wpList_nil ?_
        have hO75 := Own.cast (ys := ((fun (k : Nat) => pairsTo n.toNat k) (k + 1))) (Own.back hO47 hg38 (KpL.size E23)) (by (try dsimp only); rw [show j = n.toNat by omega]; rfl)
        refine ⟨k + 1, ⟨fun t => (([(Iv n), Ud, (.slice none 0 0), (.slice p49 ((pairsTo n.toNat k ++ rowP k j).length) q50), (Iv (k : Int)), (Iv (j : Int)), (.slice (some ⟨b3, 0, none⟩) 0 0), (Iv n), (Iv ((k : Int) + 1)), (Bo (icmp .lss (k : Int) n)), (Iv (k : Int)), (Iv (k : Int)), (Iv ((k : Int) + 1)), (Iv (j : Int)), (Iv n), (Bo (icmp .lss (j : Int) n)), (u36 16), (u36 17), (u36 18), (u36 19), (u36 20), (u36 21), (u36 22), (u36 23), (Iv ((k : Int) + 1)), Ud] : List Value)[t]?).getD undef, (.slice p49 ((pairsTo n.toNat k ++ rowP k j).length) q50), ?_, (KpL.more E23 E45 (allS (hg38.imp (fun h => by simp [h]) id) all0)), hO75, ?_⟩, ?_⟩
        · first | rfl | (simp only [Nat.cast_add, Nat.cast_one, Int.natCast_add, Int.natCast_one]; rfl)
        · omega
        · omega
    have c32' := c32
    (try simp only [icmp, Bool.and_eq_true, Bool.or_eq_true, Bool.and_eq_false_iff, Bool.or_eq_false_iff, Bool.not_eq_true', Bool.not_eq_false', decide_eq_true_eq, decide_eq_false_iff_not, beq_iff_eq, bne_iff_ne, beq_eq_false_iff_ne, bne_eq_false_iff_eq] at c32')
    refine wp_exit ?_
    refine hK12 _ _ ?_
    refine wp_seq_k fun K76 hK76 => ?_
    refine wp_region_lit ?_
    refine q_is rfl rfl (does_move (u := (.slice p27 ((pairsTo n.toNat k).length) q28)) (ev rfl)) (by dsimp only [List.set]; try rfl) ?_
    refine q_is rfl rfl (does_assign (u := (.slice p27 ((pairsTo n.toNat k).length) q28)) (ev rfl)) (by dsimp only [List.set]; try rfl) ?_
    refine wpList_nil (hK76 _ _ ?_)
    refine wp_ret ?_
    refine ret_val (v := (.slice p27 ((pairsTo n.toNat k).length) q28)) (res_T rfl (slot rfl)) X26 ?_
    have x77 : (pairsTo n.toNat k) = (pairsTo n.toNat n.toNat) := by congr 1; omega
    exact ⟨(.slice p27 ((pairsTo n.toNat k).length) q28), rfl, (Hang.castL (Own.hang hO25 RP.flat (by decide) (Nat.le_trans (Nat.le_refl _) hN19) (Nat.le_trans (Nat.le_refl _) (Below.size E7))) x77)⟩

/- impl.LessVectors -/
theorem c_impl_LessVectors (a : List Value) (A_a : V3) (b : List Value) (A_b : V3) (w : World) (hv_a : RV3 w A_a a) (hv_b : RV3 w A_b b) : Gives Try.prog 63 #[(.agg a.toArray), (.agg b.toArray)] w (fun v w' => ∃ cs_1 : List Value, v = (.agg cs_1.toArray) ∧ RV3 w (vsub A_a A_b) cs_1) := by
  obtain ⟨r1, r3, r5, rfl, h2, h4, h6⟩ := hv_a
  obtain ⟨r7, r9, r11, rfl, h8, h10, h12⟩ := hv_b
  refine enter [(.agg #[(Fl r1), (Fl r3), (Fl r5)]), (.agg #[(Fl r7), (Fl r9), (Fl r11)]), Ud, Ud, Ud, Ud, Ud, Ud, Ud, Ud, Ud, Ud, Ud, Ud, Ud, Ud, Ud, Ud, Ud, Ud, Ud] Try.func63 rfl Try.ntmps63 rfl ?_
  refine wp_seq_k fun K13 hK13 => ?_
  refine wp_region_lit ?_
  refine seqd rfl rfl (does_box (u := (.agg #[(Fl r1), (Fl r3), (Fl r5)])) (ev rfl)) ?_; rintro _ w18 ⟨b14, rfl, hb15, hB16, E17⟩
  have g19 : w.heap.size ≤ b14 := Nat.le_trans (Below.size (Ext.refl w)) hb15
  change Blk _ _ [(Fl r1), (Fl r3), (Fl r5)] at hB16
  have X20 := Ext.gr (Ext.refl w) E17
  show wpList _ _ _ _ (fr [(.agg #[(Fl r1), (Fl r3), (Fl r5)]), (.agg #[(Fl r7), (Fl r9), (Fl r11)]), (Pt b14 0), Ud, Ud, Ud, Ud, Ud, Ud, Ud, Ud, Ud, Ud, Ud, Ud, Ud, Ud, Ud, Ud, Ud, Ud]) _
  refine seqd rfl rfl (does_box (u := (.agg #[(Fl r7), (Fl r9), (Fl r11)])) (ev rfl)) ?_; rintro _ w25 ⟨b21, rfl, hb22, hB23, E24⟩
  have n26 : b14 < b21 := Nat.lt_of_lt_of_le (Blk.lt hB16) hb22
  have g27 : w.heap.size ≤ b21 := Nat.le_trans (Below.size X20) hb22
  change Blk _ _ [(Fl r7), (Fl r9), (Fl r11)] at hB23
  have X28 := Ext.gr X20 E24
  show wpList _ _ _ _ (fr [(.agg #[(Fl r1), (Fl r3), (Fl r5)]), (.agg #[(Fl r7), (Fl r9), (Fl r11)]), (Pt b14 0), (Pt b21 0), Ud, Ud, Ud, Ud, Ud, Ud, Ud, Ud, Ud, Ud, Ud, Ud, Ud, Ud, Ud, Ud, Ud]) _
  refine seqd rfl rfl (does_alloc z32) ?_; rintro _ w33 ⟨b29, rfl, hb30, hB31, E32⟩
  have n34 : b14 < b29 := Nat.lt_of_lt_of_le (Blk.lt (hB16.ext E24)) hb30
  have n35 : b21 < b29 := Nat.lt_of_lt_of_le (Blk.lt hB23) hb30
  have g36 : w.heap.size ≤ b29 := Nat.le_trans (Below.size X28) hb30
  change Blk _ _ [(Fl 0), (Fl 0), (Fl 0)] at hB31
  have X37 := Ext.gr X28 E32
  show wpList _ _ _ _ (fr [(.agg #[(Fl r1), (Fl r3), (Fl r5)]), (.agg #[(Fl r7), (Fl r9), (Fl r11)]), (Pt b14 0), (Pt b21 0), (Pt b29 0), Ud, Ud, Ud, Ud, Ud, Ud, Ud, Ud, Ud, Ud, Ud, Ud, Ud, Ud, Ud, Ud]) _
  refine wpList_nil (hK13 _ _ ?_)
  refine wp_seq_k fun K38 hK38 => ?_
  refine wp_region_lit ?_
  refine q_is (l' := [(.agg #[(Fl r1), (Fl r3), (Fl r5)]), (.agg #[(Fl r7), (Fl r9), (Fl r11)]), (Pt b14 0), (Pt b21 0), (Pt b29 0), (Pt b14 0), Ud, Ud, Ud, Ud, Ud, Ud, Ud, Ud, Ud, Ud, Ud, Ud, Ud, Ud, Ud]) rfl rfl (does_fieldAddr (ev rfl) fa32_0) rfl ?_
  refine q_is (l' := [(.agg #[(Fl r1), (Fl r3), (Fl r5)]), (.agg #[(Fl r7), (Fl r9), (Fl r11)]), (Pt b14 0), (Pt b21 0), (Pt b29 0), (Pt b14 0), (Fl r1), Ud, Ud, Ud, Ud, Ud, Ud, Ud, Ud, Ud, Ud, Ud, Ud, Ud, Ud]) rfl rfl (does_load (u := (Fl r1)) (ev rfl) Try.isAgg22 (Cells.at (Blk.cells ((hB16.ext E24).ext E32)) 0 rfl)) rfl ?_
  refine q_is (l' := [(.agg #[(Fl r1), (Fl r3), (Fl r5)]), (.agg #[(Fl r7), (Fl r9), (Fl r11)]), (Pt b14 0), (Pt b21 0), (Pt b29 0), (Pt b14 0), (Fl r1), (Pt b21 0), Ud, Ud, Ud, Ud, Ud, Ud, Ud, Ud, Ud, Ud, Ud, Ud, Ud]) rfl rfl (does_fieldAddr (ev rfl) fa32_0) rfl ?_
  refine q_is (l' := [(.agg #[(Fl r1), (Fl r3), (Fl r5)]), (.agg #[(Fl r7), (Fl r9), (Fl r11)]), (Pt b14 0), (Pt b21 0), (Pt b29 0), (Pt b14 0), (Fl r1), (Pt b21 0), (Fl r7), Ud, Ud, Ud, Ud, Ud, Ud, Ud, Ud, Ud, Ud, Ud, Ud]) rfl rfl (does_load (u := (Fl r7)) (ev rfl) Try.isAgg22 (Cells.at (Blk.cells (hB23.ext E32)) 0 rfl)) rfl ?_
  refine seqd rfl rfl (does_float (.inr (.inl rfl)) (ev rfl) (ev rfl)) ?_; rintro _ w42 ⟨r39, rfl, h40, E41⟩
  have X43 := Ext.gr X37 E41
  show wpList _ _ _ _ (fr [(.agg #[(Fl r1), (Fl r3), (Fl r5)]), (.agg #[(Fl r7), (Fl r9), (Fl r11)]), (Pt b14 0), (Pt b21 0), (Pt b29 0), (Pt b14 0), (Fl r1), (Pt b21 0), (Fl r7), (Fl r39), Ud, Ud, Ud, Ud, Ud, Ud, Ud, Ud, Ud, Ud, Ud]) _
  refine q_is (l' := [(.agg #[(Fl r1), (Fl r3), (Fl r5)]), (.agg #[(Fl r7), (Fl r9), (Fl r11)]), (Pt b14 0), (Pt b21 0), (Pt b29 0), (Pt b14 0), (Fl r1), (Pt b21 0), (Fl r7), (Fl r39), (Pt b14 1), Ud, Ud, Ud, Ud, Ud, Ud, Ud, Ud, Ud, Ud]) rfl rfl (does_fieldAddr (ev rfl) fa32_1) rfl ?_
  refine q_is (l' := [(.agg #[(Fl r1), (Fl r3), (Fl r5)]), (.agg #[(Fl r7), (Fl r9), (Fl r11)]), (Pt b14 0), (Pt b21 0), (Pt b29 0), (Pt b14 0), (Fl r1), (Pt b21 0), (Fl r7), (Fl r39), (Pt b14 1), (Fl r3), Ud, Ud, Ud, Ud, Ud, Ud, Ud, Ud, Ud]) rfl rfl (does_load (u := (Fl r3)) (ev rfl) Try.isAgg22 (Cells.at (Blk.cells (((hB16.ext E24).ext E32).ext E41)) 1 rfl)) rfl ?_
  refine q_is (l' := [(.agg #[(Fl r1), (Fl r3), (Fl r5)]), (.agg #[(Fl r7), (Fl r9), (Fl r11)]), (Pt b14 0), (Pt b21 0), (Pt b29 0), (Pt b14 0), (Fl r1), (Pt b21 0), (Fl r7), (Fl r39), (Pt b14 1), (Fl r3), (Pt b21 1), Ud, Ud, Ud, Ud, Ud, Ud, Ud, Ud]) rfl rfl (does_fieldAddr (ev rfl) fa32_1) rfl ?_
  refine q_is (l' := [(.agg #[(Fl r1), (Fl r3), (Fl r5)]), (.agg #[(Fl r7), (Fl r9), (Fl r11)]), (Pt b14 0), (Pt b21 0), (Pt b29 0), (Pt b14 0), (Fl r1), (Pt b21 0), (Fl r7), (Fl r39), (Pt b14 1), (Fl r3), (Pt b21 1), (Fl r9), Ud, Ud, Ud, Ud, Ud, Ud, Ud]) rfl rfl (does_load (u := (Fl r9)) (ev rfl) Try.isAgg22 (Cells.at (Blk.cells ((hB23.ext E32).ext E41)) 1 rfl)) rfl ?_
  refine seqd rfl rfl (does_float (.inr (.inl rfl)) (ev rfl) (ev rfl)) ?_; rintro _ w47 ⟨r44, rfl, h45, E46⟩
  have X48 := Ext.gr X43 E46
  show wpList _ _ _ _ (fr [(.agg #[(Fl r1), (Fl r3), (Fl r5)]), (.agg #[(Fl r7), (Fl r9), (Fl r11)]), (Pt b14 0), (Pt b21 0), (Pt b29 0), (Pt b14 0), (Fl r1), (Pt b21 0), (Fl r7), (Fl r39), (Pt b14 1), (Fl r3), (Pt b21 1), (Fl r9), (Fl r44), Ud, Ud, Ud, Ud, Ud, Ud]) _
  refine q_is (l' := [(.agg #[(Fl r1), (Fl r3), (Fl r5)]), (.agg #[(Fl r7), (Fl r9), (Fl r11)]), (Pt b14 0), (Pt b21 0), (Pt b29 0), (Pt b14 0), (Fl r1), (Pt b21 0), (Fl r7), (Fl r39), (Pt b14 1), (Fl r3), (Pt b21 1), (Fl r9), (Fl r44), (Pt b14 2), Ud, Ud, Ud, Ud, Ud]) rfl rfl (does_fieldAddr (ev rfl) fa32_2) rfl ?_
  refine q_is (l' := [(.agg #[(Fl r1), (Fl r3), (Fl r5)]), (.agg #[(Fl r7), (Fl r9), (Fl r11)]), (Pt b14 0), (Pt b21 0), (Pt b29 0), (Pt b14 0), (Fl r1), (Pt b21 0), (Fl r7), (Fl r39), (Pt b14 1), (Fl r3), (Pt b21 1), (Fl r9), (Fl r44), (Pt b14 2), (Fl r5), Ud, Ud, Ud, Ud]) rfl rfl (does_load (u := (Fl r5)) (ev rfl) Try.isAgg22 (Cells.at (Blk.cells ((((hB16.ext E24).ext E32).ext E41).ext E46)) 2 rfl)) rfl ?_
  refine q_is (l' := [(.agg #[(Fl r1), (Fl r3), (Fl r5)]), (.agg #[(Fl r7), (Fl r9), (Fl r11)]), (Pt b14 0), (Pt b21 0), (Pt b29 0), (Pt b14 0), (Fl r1), (Pt b21 0), (Fl r7), (Fl r39), (Pt b14 1), (Fl r3), (Pt b21 1), (Fl r9), (Fl r44), (Pt b14 2), (Fl r5), (Pt b21 2), Ud, Ud, Ud]) rfl rfl (does_fieldAddr (ev rfl) fa32_2) rfl ?_
  refine q_is (l' := [(.agg #[(Fl r1), (Fl r3), (Fl r5)]), (.agg #[(Fl r7), (Fl r9), (Fl r11)]), (Pt b14 0), (Pt b21 0), (Pt b29 0), (Pt b14 0), (Fl r1), (Pt b21 0), (Fl r7), (Fl r39), (Pt b14 1), (Fl r3), (Pt b21 1), (Fl r9), (Fl r44), (Pt b14 2), (Fl r5), (Pt b21 2), (Fl r11), Ud, Ud]) rfl rfl (does_load (u := (Fl r11)) (ev rfl) Try.isAgg22 (Cells.at (Blk.cells (((hB23.ext E32).ext E41).ext E46)) 2 rfl)) rfl ?_
  refine seqd rfl rfl (does_float (.inr (.inl rfl)) (ev rfl) (ev rfl)) ?_; rintro _ w52 ⟨r49, rfl, h50, E51⟩
  have X53 := Ext.gr X48 E51
  show wpList _ _ _ _ (fr [(.agg #[(Fl r1), (Fl r3), (Fl r5)]), (.agg #[(Fl r7), (Fl r9), (Fl r11)]), (Pt b14 0), (Pt b21 0), (Pt b29 0), (Pt b14 0), (Fl r1), (Pt b21 0), (Fl r7), (Fl r39), (Pt b14 1), (Fl r3), (Pt b21 1), (Fl r9), (Fl r44), (Pt b14 2), (Fl r5), (Pt b21 2), (Fl r11), (Fl r49), Ud]) _
  refine q_is (l' := [(.agg #[(Fl r1), (Fl r3), (Fl r5)]), (.agg #[(Fl r7), (Fl r9), (Fl r11)]), (Pt b14 0), (Pt b21 0), (Pt b29 0), (Pt b14 0), (Fl r1), (Pt b21 0), (Fl r7), (Fl r39), (Pt b14 1), (Fl r3), (Pt b21 1), (Fl r9), (Fl r44), (Pt b14 2), (Fl r5), (Pt b21 2), (Fl r11), (Fl r49), (.agg #[(Fl r39), (Fl r44), (Fl r49)])]) rfl rfl (does_build (parts' := [(0, (Fl r39)), (1, (Fl r44)), (2, (Fl r49))]) (cells := #[(Fl r39), (Fl r44), (Fl r49)]) (evp rfl) (by kernel_rfl)) rfl ?_
  refine seqn rfl rfl (does_store (n := 3) (cs := [(Fl 0), (Fl 0), (Fl 0)]) (u := (.agg #[(Fl r39), (Fl r44), (Fl r49)])) (ev rfl) (ev rfl) Try.sizeOf32 rfl (((hB31.ext E41).ext E46).ext E51) (Nat.le_of_ble_eq_true rfl) rfl) ?_; rintro _ w56 ⟨rfl, W54, hB55⟩
  change Blk _ _ [(Fl r39), (Fl r44), (Fl r49)] at hB55
  have X57 := Below.wr X53 W54 g36
  refine wpList_nil (hK38 _ _ ?_)
  refine wp_ret ?_
  refine ret_val (v := (.agg #[(Fl r39), (Fl r44), (Fl r49)])) (res_C rfl (slot rfl) (run_loadAgg (cs := [(Fl r39), (Fl r44), (Fl r49)]) Try.isAgg32 Try.sizeOf32 (Blk.cells hB55) rfl)) X57 ?_
  have x58 : cf .f32 r39 = (vsub A_a A_b).x := by first | with_reducible rfl | (simp only [vsub, h2, h4, h6, h8, h10, h12, h40, h45, h50]; done) | (simp [vsub, h2, h4, h6, h8, h10, h12, h40, h45, h50]; done) | rfl
  have x59 : cf .f32 r44 = (vsub A_a A_b).y := by first | with_reducible rfl | (simp only [vsub, h2, h4, h6, h8, h10, h12, h40, h45, h50]; done) | (simp [vsub, h2, h4, h6, h8, h10, h12, h40, h45, h50]; done) | rfl
  have x60 : cf .f32 r49 = (vsub A_a A_b).z := by first | with_reducible rfl | (simp only [vsub, h2, h4, h6, h8, h10, h12, h40, h45, h50]; done) | (simp [vsub, h2, h4, h6, h8, h10, h12, h40, h45, h50]; done) | rfl
  exact ⟨[(Fl r39), (Fl r44), (Fl r49)], rfl, ⟨r39, r44, r49, rfl, x58, x59, x60⟩⟩

/- impl.RootNumber -/
theorem c_impl_RootNumber (x : Nat) (w : World) : Gives Try.prog 94 #[(Fl x)] w (fun v w' => ∃ r_1 : Nat, v = (Fl r_1) ∧ cf .f32 r_1 = rootF (cf .f32 x)) := by
  refine enter [(Fl x), Ud, Ud, Ud, Ud, Ud, Ud] Try.func94 rfl Try.ntmps94 rfl ?_
  refine wp_seq_k fun K1 hK1 => ?_
  refine wp_region_lit ?_
  refine q_is (l' := [(Fl x), Ud, (Fl 0), Ud, Ud, Ud, Ud]) rfl rfl (does_assign (u := (Fl 0)) (ev rfl)) rfl ?_
  refine wpList_nil (hK1 _ _ ?_)
  refine wp_seq_k fun K2 hK2 => ?_
  refine wp_region_lit ?_
  refine q_is (l' := [(Fl x), Ud, (Fl 0), (Fl x), Ud, Ud, Ud]) rfl rfl (does_move (u := (Fl x)) (ev rfl)) rfl ?_
  refine seqd rfl rfl (does_widen Try.underlying22 Try.underlying75 (ev rfl)) ?_; rintro _ w6 ⟨r3, rfl, h4, E5⟩
  have X7 := Ext.gr (Ext.refl w) E5
  show wpList _ _ _ _ (fr [(Fl x), Ud, (Fl 0), (Fl x), (Fd r3), Ud, Ud]) _
  refine seqd rfl rfl (does_call (args := #[(Fd r3)]) cal101 (evs rfl) (c_math_Sqrt r3 _)) ?_; rintro _ w9 ⟨E8, ⟨r10, rfl, h11⟩⟩
  have X12 := Ext.gr X7 E8
  show wpList _ _ _ _ (fr [(Fl x), Ud, (Fl 0), (Fl x), (Fd r3), (Fd r10), Ud]) _
  refine seqd rfl rfl (does_narrow Try.underlying75 Try.underlying22 (ev rfl) (by first | assumption | (simp only [h4, h11]; exact nov_sqrt _))) ?_; rintro _ w16 ⟨r13, rfl, h14, E15⟩
  have X17 := Ext.gr X12 E15
  show wpList _ _ _ _ (fr [(Fl x), Ud, (Fl 0), (Fl x), (Fd r3), (Fd r10), (Fl r13)]) _
  refine q_is (l' := [(Fl x), Ud, (Fl r13), (Fl x), (Fd r3), (Fd r10), (Fl r13)]) rfl rfl (does_assign (u := (Fl r13)) (ev rfl)) rfl ?_
  refine wpList_nil (hK2 _ _ ?_)
  refine wp_ret ?_
  refine ret_val (v := (Fl r13)) (res_T rfl (slot rfl)) X17 ?_
  have x18 : cf .f32 r13 = rootF (cf .f32 x) := by first | with_reducible rfl | (simp only [rootF, h4, h11, h14]; done) | (simp [rootF, h4, h11, h14]; done) | rfl
  exact ⟨r13, rfl, x18⟩

/- impl.InnerOf -/
theorem c_impl_InnerOf (a : List Value) (A_a : V3) (b : List Value) (A_b : V3) (w : World) (hv_a : RV3 w A_a a) (hv_b : RV3 w A_b b) : Gives Try.prog 95 #[(.agg a.toArray), (.agg b.toArray)] w (fun v w' => ∃ r_1 : Nat, v = (Fl r_1) ∧ cf .f32 r_1 = innerF A_a A_b) := by
  obtain ⟨r1, r3, r5, rfl, h2, h4, h6⟩ := hv_a
  obtain ⟨r7, r9, r11, rfl, h8, h10, h12⟩ := hv_b
  refine enter [(.agg #[(Fl r1), (Fl r3), (Fl r5)]), (.agg #[(Fl r7), (Fl r9), (Fl r11)]), Ud, Ud, Ud, Ud, Ud, Ud, Ud, Ud, Ud, Ud, Ud, Ud, Ud, Ud, Ud, Ud, Ud, Ud, Ud, Ud] Try.func95 rfl Try.ntmps95 rfl ?_
  refine wp_seq_k fun K13 hK13 => ?_
  refine wp_region_lit ?_
  refine seqd rfl rfl (does_box (u := (.agg #[(Fl r1), (Fl r3), (Fl r5)])) (ev rfl)) ?_; rintro _ w18 ⟨b14, rfl, hb15, hB16, E17⟩
  have g19 : w.heap.size ≤ b14 := Nat.le_trans (Below.size (Ext.refl w)) hb15
  change Blk _ _ [(Fl r1), (Fl r3), (Fl r5)] at hB16
  have X20 := Ext.gr (Ext.refl w) E17
  show wpList _ _ _ _ (fr [(.agg #[(Fl r1), (Fl r3), (Fl r5)]), (.agg #[(Fl r7), (Fl r9), (Fl r11)]), (Pt b14 0), Ud, Ud, Ud, Ud, Ud, Ud, Ud, Ud, Ud, Ud, Ud, Ud, Ud, Ud, Ud, Ud, Ud, Ud, Ud]) _
  refine seqd rfl rfl (does_box (u := (.agg #[(Fl r7), (Fl r9), (Fl r11)])) (ev rfl)) ?_; rintro _ w25 ⟨b21, rfl, hb22, hB23, E24⟩
  have n26 : b14 < b21 := Nat.lt_of_lt_of_le (Blk.lt hB16) hb22
  have g27 : w.heap.size ≤ b21 := Nat.le_trans (Below.size X20) hb22
  change Blk _ _ [(Fl r7), (Fl r9), (Fl r11)] at hB23
  have X28 := Ext.gr X20 E24
  show wpList _ _ _ _ (fr [(.agg #[(Fl r1), (Fl r3), (Fl r5)]), (.agg #[(Fl r7), (Fl r9), (Fl r11)]), (Pt b14 0), (Pt b21 0), Ud, Ud, Ud, Ud, Ud, Ud, Ud, Ud, Ud, Ud, Ud, Ud, Ud, Ud, Ud, Ud, Ud, Ud]) _
  refine q_is (l' := [(.agg #[(Fl r1), (Fl r3), (Fl r5)]), (.agg #[(Fl r7), (Fl r9), (Fl r11)]), (Pt b14 0), (Pt b21 0), (Fl 0), Ud, Ud, Ud, Ud, Ud, Ud, Ud, Ud, Ud, Ud, Ud, Ud, Ud, Ud, Ud, Ud, Ud]) rfl rfl (does_assign (u := (Fl 0)) (ev rfl)) rfl ?_
  refine wpList_nil (hK13 _ _ ?_)
  refine wp_seq_k fun K29 hK29 => ?_
  refine wp_region_lit ?_
  refine q_is (l' := [(.agg #[(Fl r1), (Fl r3), (Fl r5)]), (.agg #[(Fl r7), (Fl r9), (Fl r11)]), (Pt b14 0), (Pt b21 0), (Fl 0), (Pt b14 0), Ud, Ud, Ud, Ud, Ud, Ud, Ud, Ud, Ud, Ud, Ud, Ud, Ud, Ud, Ud, Ud]) rfl rfl (does_fieldAddr (ev rfl) fa32_0) rfl ?_
  refine q_is (l' := [(.agg #[(Fl r1), (Fl r3), (Fl r5)]), (.agg #[(Fl r7), (Fl r9), (Fl r11)]), (Pt b14 0), (Pt b21 0), (Fl 0), (Pt b14 0), (Fl r1), Ud, Ud, Ud, Ud, Ud, Ud, Ud, Ud, Ud, Ud, Ud, Ud, Ud, Ud, Ud]) rfl rfl (does_load (u := (Fl r1)) (ev rfl) Try.isAgg22 (Cells.at (Blk.cells (hB16.ext E24)) 0 rfl)) rfl ?_
  refine q_is (l' := [(.agg #[(Fl r1), (Fl r3), (Fl r5)]), (.agg #[(Fl r7), (Fl r9), (Fl r11)]), (Pt b14 0), (Pt b21 0), (Fl 0), (Pt b14 0), (Fl r1), (Pt b21 0), Ud, Ud, Ud, Ud, Ud, Ud, Ud, Ud, Ud, Ud, Ud, Ud, Ud, Ud]) rfl rfl (does_fieldAddr (ev rfl) fa32_0) rfl ?_
  refine q_is (l' := [(.agg #[(Fl r1), (Fl r3), (Fl r5)]), (.agg #[(Fl r7), (Fl r9), (Fl r11)]), (Pt b14 0), (Pt b21 0), (Fl 0), (Pt b14 0), (Fl r1), (Pt b21 0), (Fl r7), Ud, Ud, Ud, Ud, Ud, Ud, Ud, Ud, Ud, Ud, Ud, Ud, Ud]) rfl rfl (does_load (u := (Fl r7)) (ev rfl) Try.isAgg22 (Cells.at (Blk.cells hB23) 0 rfl)) rfl ?_
  refine seqd rfl rfl (does_float (.inr (.inr (.inl rfl))) (ev rfl) (ev rfl)) ?_; rintro _ w33 ⟨r30, rfl, h31, E32⟩
  have X34 := Ext.gr X28 E32
  show wpList _ _ _ _ (fr [(.agg #[(Fl r1), (Fl r3), (Fl r5)]), (.agg #[(Fl r7), (Fl r9), (Fl r11)]), (Pt b14 0), (Pt b21 0), (Fl 0), (Pt b14 0), (Fl r1), (Pt b21 0), (Fl r7), (Fl r30), Ud, Ud, Ud, Ud, Ud, Ud, Ud, Ud, Ud, Ud, Ud, Ud]) _
  refine q_is (l' := [(.agg #[(Fl r1), (Fl r3), (Fl r5)]), (.agg #[(Fl r7), (Fl r9), (Fl r11)]), (Pt b14 0), (Pt b21 0), (Fl 0), (Pt b14 0), (Fl r1), (Pt b21 0), (Fl r7), (Fl r30), (Pt b14 1), Ud, Ud, Ud, Ud, Ud, Ud, Ud, Ud, Ud, Ud, Ud]) rfl rfl (does_fieldAddr (ev rfl) fa32_1) rfl ?_
  refine q_is (l' := [(.agg #[(Fl r1), (Fl r3), (Fl r5)]), (.agg #[(Fl r7), (Fl r9), (Fl r11)]), (Pt b14 0), (Pt b21 0), (Fl 0), (Pt b14 0), (Fl r1), (Pt b21 0), (Fl r7), (Fl r30), (Pt b14 1), (Fl r3), Ud, Ud, Ud, Ud, Ud, Ud, Ud, Ud, Ud, Ud]) rfl rfl (does_load (u := (Fl r3)) (ev rfl) Try.isAgg22 (Cells.at (Blk.cells ((hB16.ext E24).ext E32)) 1 rfl)) rfl ?_
  refine q_is (l' := [(.agg #[(Fl r1), (Fl r3), (Fl r5)]), (.agg #[(Fl r7), (Fl r9), (Fl r11)]), (Pt b14 0), (Pt b21 0), (Fl 0), (Pt b14 0), (Fl r1), (Pt b21 0), (Fl r7), (Fl r30), (Pt b14 1), (Fl r3), (Pt b21 1), Ud, Ud, Ud, Ud, Ud, Ud, Ud, Ud, Ud]) rfl rfl (does_fieldAddr (ev rfl) fa32_1) rfl ?_
  refine q_is (l' := [(.agg #[(Fl r1), (Fl r3), (Fl r5)]), (.agg #[(Fl r7), (Fl r9), (Fl r11)]), (Pt b14 0), (Pt b21 0), (Fl 0), (Pt b14 0), (Fl r1), (Pt b21 0), (Fl r7), (Fl r30), (Pt b14 1), (Fl r3), (Pt b21 1), (Fl r9), Ud, Ud, Ud, Ud, Ud, Ud, Ud, Ud]) rfl rfl (does_load (u := (Fl r9)) (ev rfl) Try.isAgg22 (Cells.at (Blk.cells (hB23.ext E32)) 1 rfl)) rfl ?_
  refine seqd rfl rfl (does_float (.inr (.inr (.inl rfl))) (ev rfl) (ev rfl)) ?_; rintro _ w38 ⟨r35, rfl, h36, E37⟩
  have X39 := Ext.gr X34 E37
  show wpList _ _ _ _ (fr [(.agg #[(Fl r1), (Fl r3), (Fl r5)]), (.agg #[(Fl r7), (Fl r9), (Fl r11)]), (Pt b14 0), (Pt b21 0), (Fl 0), (Pt b14 0), (Fl r1), (Pt b21 0), (Fl r7), (Fl r30), (Pt b14 1), (Fl r3), (Pt b21 1), (Fl r9), (Fl r35), Ud, Ud, Ud, Ud, Ud, Ud, Ud]) _
  refine seqd rfl rfl (does_float (.inl rfl) (ev rfl) (ev rfl)) ?_; rintro _ w43 ⟨r40, rfl, h41, E42⟩
  have X44 := Ext.gr X39 E42
  show wpList _ _ _ _ (fr [(.agg #[(Fl r1), (Fl r3), (Fl r5)]), (.agg #[(Fl r7), (Fl r9), (Fl r11)]), (Pt b14 0), (Pt b21 0), (Fl 0), (Pt b14 0), (Fl r1), (Pt b21 0), (Fl r7), (Fl r30), (Pt b14 1), (Fl r3), (Pt b21 1), (Fl r9), (Fl r35), (Fl r40), Ud, Ud, Ud, Ud, Ud, Ud]) _
  refine q_is (l' := [(.agg #[(Fl r1), (Fl r3), (Fl r5)]), (.agg #[(Fl r7), (Fl r9), (Fl r11)]), (Pt b14 0), (Pt b21 0), (Fl 0), (Pt b14 0), (Fl r1), (Pt b21 0), (Fl r7), (Fl r30), (Pt b14 1), (Fl r3), (Pt b21 1), (Fl r9), (Fl r35), (Fl r40), (Pt b14 2), Ud, Ud, Ud, Ud, Ud]) rfl rfl (does_fieldAddr (ev rfl) fa32_2) rfl ?_
  refine q_is (l' := [(.agg #[(Fl r1), (Fl r3), (Fl r5)]), (.agg #[(Fl r7), (Fl r9), (Fl r11)]), (Pt b14 0), (Pt b21 0), (Fl 0), (Pt b14 0), (Fl r1), (Pt b21 0), (Fl r7), (Fl r30), (Pt b14 1), (Fl r3), (Pt b21 1), (Fl r9), (Fl r35), (Fl r40), (Pt b14 2), (Fl r5), Ud, Ud, Ud, Ud]) rfl rfl (does_load (u := (Fl r5)) (ev rfl) Try.isAgg22 (Cells.at (Blk.cells ((((hB16.ext E24).ext E32).ext E37).ext E42)) 2 rfl)) rfl ?_
  refine q_is (l' := [(.agg #[(Fl r1), (Fl r3), (Fl r5)]), (.agg #[(Fl r7), (Fl r9), (Fl r11)]), (Pt b14 0), (Pt b21 0), (Fl 0), (Pt b14 0), (Fl r1), (Pt b21 0), (Fl r7), (Fl r30), (Pt b14 1), (Fl r3), (Pt b21 1), (Fl r9), (Fl r35), (Fl r40), (Pt b14 2), (Fl r5), (Pt b21 2), Ud, Ud, Ud]) rfl rfl (does_fieldAddr (ev rfl) fa32_2) rfl ?_
  refine q_is (l' := [(.agg #[(Fl r1), (Fl r3), (Fl r5)]), (.agg #[(Fl r7), (Fl r9), (Fl r11)]), (Pt b14 0), (Pt b21 0), (Fl 0), (Pt b14 0), (Fl r1), (Pt b21 0), (Fl r7), (Fl r30), (Pt b14 1), (Fl r3), (Pt b21 1), (Fl r9), (Fl r35), (Fl r40), (Pt b14 2), (Fl r5), (Pt b21 2), (Fl r11), Ud, Ud]) rfl rfl (does_load (u := (Fl r11)) (ev rfl) Try.isAgg22 (Cells.at (Blk.cells (((hB23.ext E32).ext E37).ext E42)) 2 rfl)) rfl ?_
  refine seqd rfl rfl (does_float (.inr (.inr (.inl rfl))) (ev rfl) (ev rfl)) ?_; rintro _ w48 ⟨r45, rfl, h46, E47⟩
  have X49 := Ext.gr X44 E47
  show wpList _ _ _ _ (fr [(.agg #[(Fl r1), (Fl r3), (Fl r5)]), (.agg #[(Fl r7), (Fl r9), (Fl r11)]), (Pt b14 0), (Pt b21 0), (Fl 0), (Pt b14 0), (Fl r1), (Pt b21 0), (Fl r7), (Fl r30), (Pt b14 1), (Fl r3), (Pt b21 1), (Fl r9), (Fl r35), (Fl r40), (Pt b14 2), (Fl r5), (Pt b21 2), (Fl r11), (Fl r45), Ud]) _
  refine seqd rfl rfl (does_float (.inl rfl) (ev rfl) (ev rfl)) ?_; rintro _ w53 ⟨r50, rfl, h51, E52⟩
  have X54 := Ext.gr X49 E52
  show wpList _ _ _ _ (fr [(.agg #[(Fl r1), (Fl r3), (Fl r5)]), (.agg #[(Fl r7), (Fl r9), (Fl r11)]), (Pt b14 0), (Pt b21 0), (Fl 0), (Pt b14 0), (Fl r1), (Pt b21 0), (Fl r7), (Fl r30), (Pt b14 1), (Fl r3), (Pt b21 1), (Fl r9), (Fl r35), (Fl r40), (Pt b14 2), (Fl r5), (Pt b21 2), (Fl r11), (Fl r45), (Fl r50)]) _
  refine q_is (l' := [(.agg #[(Fl r1), (Fl r3), (Fl r5)]), (.agg #[(Fl r7), (Fl r9), (Fl r11)]), (Pt b14 0), (Pt b21 0), (Fl r50), (Pt b14 0), (Fl r1), (Pt b21 0), (Fl r7), (Fl r30), (Pt b14 1), (Fl r3), (Pt b21 1), (Fl r9), (Fl r35), (Fl r40), (Pt b14 2), (Fl r5), (Pt b21 2), (Fl r11), (Fl r45), (Fl r50)]) rfl rfl (does_assign (u := (Fl r50)) (ev rfl)) rfl ?_
  refine wpList_nil (hK29 _ _ ?_)
  refine wp_ret ?_
  refine ret_val (v := (Fl r50)) (res_T rfl (slot rfl)) X54 ?_
  have x55 : cf .f32 r50 = innerF A_a A_b := by first | with_reducible rfl | (simp only [innerF, h2, h4, h6, h8, h10, h12, h31, h36, h41, h46, h51]; done) | (simp [innerF, h2, h4, h6, h8, h10, h12, h31, h36, h41, h46, h51]; done) | rfl
  exact ⟨r50, rfl, x55⟩

/- impl.LongOf -/
theorem c_impl_LongOf (v : List Value) (A_v : V3) (w : World) (hv_v : RV3 w A_v v) : Gives Try.prog 85 #[(.agg v.toArray)] w (fun v w' => ∃ r_1 : Nat, v = (Fl r_1) ∧ cf .f32 r_1 = longF A_v) := by
  obtain ⟨r1, r3, r5, rfl, h2, h4, h6⟩ := hv_v
  refine enter [(.agg #[(Fl r1), (Fl r3), (Fl r5)]), Ud, Ud, Ud, Ud, Ud, Ud] Try.func85 rfl Try.ntmps85 rfl ?_
  refine wp_seq_k fun K7 hK7 => ?_
  refine wp_region_lit ?_
  refine seqd rfl rfl (does_box (u := (.agg #[(Fl r1), (Fl r3), (Fl r5)])) (ev rfl)) ?_; rintro _ w12 ⟨b8, rfl, hb9, hB10, E11⟩
  have g13 : w.heap.size ≤ b8 := Nat.le_trans (Below.size (Ext.refl w)) hb9
  change Blk _ _ [(Fl r1), (Fl r3), (Fl r5)] at hB10
  have X14 := Ext.gr (Ext.refl w) E11
  show wpList _ _ _ _ (fr [(.agg #[(Fl r1), (Fl r3), (Fl r5)]), (Pt b8 0), Ud, Ud, Ud, Ud, Ud]) _
  refine q_is (l' := [(.agg #[(Fl r1), (Fl r3), (Fl r5)]), (Pt b8 0), (Fl 0), Ud, Ud, Ud, Ud]) rfl rfl (does_assign (u := (Fl 0)) (ev rfl)) rfl ?_
  refine wpList_nil (hK7 _ _ ?_)
  refine wp_seq_k fun K15 hK15 => ?_
  refine wp_region_lit ?_
  refine q_is (l' := [(.agg #[(Fl r1), (Fl r3), (Fl r5)]), (Pt b8 0), (Fl 0), (.agg #[(Fl r1), (Fl r3), (Fl r5)]), Ud, Ud, Ud]) rfl rfl (does_loadAgg (cs := [(Fl r1), (Fl r3), (Fl r5)]) (ev rfl) Try.isAgg32 Try.sizeOf32 (Blk.cells hB10) rfl) rfl ?_
  refine q_is (l' := [(.agg #[(Fl r1), (Fl r3), (Fl r5)]), (Pt b8 0), (Fl 0), (.agg #[(Fl r1), (Fl r3), (Fl r5)]), (.agg #[(Fl r1), (Fl r3), (Fl r5)]), Ud, Ud]) rfl rfl (does_loadAgg (cs := [(Fl r1), (Fl r3), (Fl r5)]) (ev rfl) Try.isAgg32 Try.sizeOf32 (Blk.cells hB10) rfl) rfl ?_
  refine seqd rfl rfl (does_call (args := #[(.agg #[(Fl r1), (Fl r3), (Fl r5)]), (.agg #[(Fl r1), (Fl r3), (Fl r5)])]) cal95 (evs rfl) (c_impl_InnerOf [(Fl r1), (Fl r3), (Fl r5)] A_v [(Fl r1), (Fl r3), (Fl r5)] A_v _ ⟨r1, r3, r5, rfl, h2, h4, h6⟩ ⟨r1, r3, r5, rfl, h2, h4, h6⟩)) ?_; rintro _ w17 ⟨E16, ⟨r18, rfl, h19⟩⟩
  have X20 := Ext.gr X14 E16
  show wpList _ _ _ _ (fr [(.agg #[(Fl r1), (Fl r3), (Fl r5)]), (Pt b8 0), (Fl 0), (.agg #[(Fl r1), (Fl r3), (Fl r5)]), (.agg #[(Fl r1), (Fl r3), (Fl r5)]), (Fl r18), Ud]) _
  refine seqd rfl rfl (does_call (args := #[(Fl r18)]) cal94 (evs rfl) (c_impl_RootNumber r18 _)) ?_; rintro _ w22 ⟨E21, ⟨r23, rfl, h24⟩⟩
  have X25 := Ext.gr X20 E21
  show wpList _ _ _ _ (fr [(.agg #[(Fl r1), (Fl r3), (Fl r5)]), (Pt b8 0), (Fl 0), (.agg #[(Fl r1), (Fl r3), (Fl r5)]), (.agg #[(Fl r1), (Fl r3), (Fl r5)]), (Fl r18), (Fl r23)]) _
  refine q_is (l' := [(.agg #[(Fl r1), (Fl r3), (Fl r5)]), (Pt b8 0), (Fl r23), (.agg #[(Fl r1), (Fl r3), (Fl r5)]), (.agg #[(Fl r1), (Fl r3), (Fl r5)]), (Fl r18), (Fl r23)]) rfl rfl (does_assign (u := (Fl r23)) (ev rfl)) rfl ?_
  refine wpList_nil (hK15 _ _ ?_)
  refine wp_ret ?_
  refine ret_val (v := (Fl r23)) (res_T rfl (slot rfl)) X25 ?_
  have x26 : cf .f32 r23 = longF A_v := by first | with_reducible rfl | (simp only [longF, h2, h4, h6, h19, h24]; done) | (simp [longF, h2, h4, h6, h19, h24]; done) | rfl
  exact ⟨r23, rfl, x26⟩

/- impl.overlap -/
theorem c_impl_overlap (ctr : Value) (L_ctr : List V3) (rad : Value) (L_rad : List Nat) (i_ : Int) (k_ : Int) (w : World) (hv_ctr : Sl RV3 3 w ctr L_ctr) (hv_rad : Sl RF 1 w rad L_rad) (hi0 : 0 ≤ i_ ∧ i_ < L_ctr.length) (hk0 : 0 ≤ k_ ∧ k_ < L_ctr.length) (hrl : L_rad.length = L_ctr.length) : Gives Try.prog 61 #[ctr, rad, (Iv i_), (Iv k_)] w (fun v w' => ∃ r_1 : Nat, v = (Fl r_1) ∧ cf .f32 r_1 = ovF L_ctr L_rad i_.toNat k_.toNat) := by
  have hlen_ctr := Sl.len hv_ctr; obtain ⟨p_ctr, q_ctr, rfl⟩ := Sl.shape hv_ctr
  have hlen_rad := Sl.len hv_rad; obtain ⟨p_rad, q_rad, rfl⟩ := Sl.shape hv_rad
  refine enter [(.slice p_ctr L_ctr.length q_ctr), (.slice p_rad L_rad.length q_rad), (Iv i_), (Iv k_), Ud, Ud, Ud, Ud, Ud, Ud, Ud, Ud, Ud, Ud, Ud, Ud, Ud, Ud, Ud, Ud, Ud, Ud, Ud, Ud, Ud, Ud, Ud, Ud, Ud] Try.func61 rfl Try.ntmps61 rfl ?_
  refine wp_seq_k fun K1 hK1 => ?_
  refine wp_region_lit ?_
  refine q_is rfl rfl (does_assign (u := (Fl 0)) (ev rfl)) (by dsimp only [List.set]; try rfl) ?_
  refine wpList_nil (hK1 _ _ ?_)
  refine wp_seq_k fun K2 hK2 => ?_
  obtain ⟨el1, hel1⟩ : ∃ e, L_rad[i_.toNat]? = some e := ⟨_, List.getElem?_eq_getElem (by omega)⟩
  obtain ⟨el2, hel2⟩ : ∃ e, L_rad[k_.toNat]? = some e := ⟨_, List.getElem?_eq_getElem (by omega)⟩
  obtain ⟨el3, hel3⟩ : ∃ e, L_ctr[k_.toNat]? = some e := ⟨_, List.getElem?_eq_getElem (by omega)⟩
  obtain ⟨el4, hel4⟩ : ∃ e, L_ctr[i_.toNat]? = some e := ⟨_, List.getElem?_eq_getElem (by omega)⟩
  refine region_draw (
    [Fact.pure [] (fun v => v = (.slice p_rad L_rad.length q_rad)),
    Fact.pure [] (fun v => v = (Iv i_)),
    Fact.mem [9, 10] (fun v w' => PtrR RF w' v el1) (by intro v w1 w2 hx h; exact h.ext RF.mono hx),
    Fact.pure [11] (fun v => ∃ r_1 : Nat, v = (Fl r_1) ∧ cf .f32 r_1 = el1),
    Fact.pure [] (fun v => v = (.slice p_rad L_rad.length q_rad)),
    Fact.pure [] (fun v => v = (Iv k_)),
    Fact.mem [13, 14] (fun v w' => PtrR RF w' v el2) (by intro v w1 w2 hx h; exact h.ext RF.mono hx),
    Fact.pure [15] (fun v => ∃ r_1 : Nat, v = (Fl r_1) ∧ cf .f32 r_1 = el2),
    Fact.pure [12, 16] (fun v => ∃ r_1 : Nat, v = (Fl r_1) ∧ cf .f32 r_1 = fop .add .f32 el1 el2),
    Fact.pure [] (fun v => v = (.slice p_ctr L_ctr.length q_ctr)),
    Fact.pure [] (fun v => v = (Iv k_)),
    Fact.mem [18, 19] (fun v w' => PtrR RV3 w' v el3) (by intro v w1 w2 hx h; exact h.ext RV3.mono hx),
    Fact.pure [20] (fun v => ∃ cs_1 : List Value, v = (.agg cs_1.toArray) ∧ RV3 w el3 cs_1),
    Fact.pure [] (fun v => v = (.slice p_ctr L_ctr.length q_ctr)),
    Fact.pure [] (fun v => v = (Iv i_)),
    Fact.mem [22, 23] (fun v w' => PtrR RV3 w' v el4) (by intro v w1 w2 hx h; exact h.ext RV3.mono hx),
    Fact.pure [24] (fun v => ∃ cs_1 : List Value, v = (.agg cs_1.toArray) ∧ RV3 w el4 cs_1),
    Fact.pure [21, 25] (fun v => ∃ cs_1 : List Value, v = (.agg cs_1.toArray) ∧ RV3 w (vsub el3 el4) cs_1),
    Fact.pure [26] (fun v => ∃ r_1 : Nat, v = (Fl r_1) ∧ cf .f32 r_1 = longF (vsub el3 el4)),
    Fact.pure [17, 27] (fun v => ∃ r_1 : Nat, v = (Fl r_1) ∧ cf .f32 r_1 = fop .sub .f32 (fop .add .f32 el1 el2) (longF (vsub el3 el4)))]) mixed (by kernel_rfl) (by intro _ _ d _ _ h; cases d <;> exact h) ?_
  obtain ⟨w3, hw5⟩ : ∃ w', w' = World.drew w := ⟨_, rfl⟩; rw [← hw5]; have E4 : Ext w w3 := by rw [hw5]; exact Ext.draw _
  clear hw5
  have X6 := Ext.gr (Ext.refl w) E4
  refine RW_d _ rfl (fun v => by dsimp only [List.set]; try rfl) (fun u hu hF => ?_) (fun v7 => ?_)
  · clear hF
    refine doesG_un rfl ?_
    refine (does_move (u := (.slice p_rad L_rad.length q_rad)) (ev rfl)).mono ?_; rintro _ _ ⟨rfl, rfl⟩
    exact ⟨rfl, Ext.refl _⟩
  refine RW_d _ rfl (fun v => by dsimp only [List.set]; try rfl) (fun u hu hF => ?_) (fun v8 => ?_)
  · clear hF
    refine doesG_un rfl ?_
    refine (does_move (u := (Iv i_)) (ev rfl)).mono ?_; rintro _ _ ⟨rfl, rfl⟩
    exact ⟨rfl, Ext.refl _⟩
  refine RW_d _ rfl (fun v => by dsimp only [List.set]; try rfl) (fun u hu hF => ?_) (fun v9 => ?_)
  · have h9_ : v7 = (.slice p_rad L_rad.length q_rad) := hF.1
    have h10_ : v8 = (Iv i_) := hF.2.1
    clear hF
    refine doesG_un rfl ?_
    obtain rfl := h9_
    obtain rfl := h10_
    refine (does_indexSl (R := RF) (i := i_) (xs := L_rad) (e := el1) Try.underlying25 Try.sizeOf22 (ev rfl) (ev rfl) (Sl.ext (Sl.ext hv_rad RF.mono (Ext.gr (Ext.refl w) E4)) RF.mono hu) (by omega) hel1).mono ?_; rintro v u' ⟨b, of, cs, hv, hc, hR, hu'⟩; subst hu'
    exact ⟨⟨b, of, cs, hv, hc, hR⟩, Ext.refl _⟩
  refine RW_d _ rfl (fun v => by dsimp only [List.set]; try rfl) (fun u hu hF => ?_) (fun v10 => ?_)
  · have h11_ : PtrR RF u v9 el1 := hF.1
    clear hF
    refine doesG_un rfl ?_
    obtain ⟨b11_, o11_, _, rfl, hc11_, ⟨r11_1, rfl, h11_2⟩⟩ := h11_
    refine (does_load (u := (Fl r11_1)) (ev rfl) Try.isAgg22 (Cells.at hc11_ 0 rfl)).mono ?_; rintro _ _ ⟨rfl, rfl⟩
    exact ⟨⟨r11_1, rfl, (by simp only [h11_2])⟩, Ext.refl _⟩
  refine RW_d _ rfl (fun v => by dsimp only [List.set]; try rfl) (fun u hu hF => ?_) (fun v11 => ?_)
  · clear hF
    refine doesG_un rfl ?_
    refine (does_move (u := (.slice p_rad L_rad.length q_rad)) (ev rfl)).mono ?_; rintro _ _ ⟨rfl, rfl⟩
    exact ⟨rfl, Ext.refl _⟩
  refine RW_d _ rfl (fun v => by dsimp only [List.set]; try rfl) (fun u hu hF => ?_) (fun v12 => ?_)
  · clear hF
    refine doesG_un rfl ?_
    refine (does_move (u := (Iv k_)) (ev rfl)).mono ?_; rintro _ _ ⟨rfl, rfl⟩
    exact ⟨rfl, Ext.refl _⟩
  refine RW_d _ rfl (fun v => by dsimp only [List.set]; try rfl) (fun u hu hF => ?_) (fun v13 => ?_)
  · have h13_ : v11 = (.slice p_rad L_rad.length q_rad) := hF.1
    have h14_ : v12 = (Iv k_) := hF.2.1
    clear hF
    refine doesG_un rfl ?_
    obtain rfl := h13_
    obtain rfl := h14_
    refine (does_indexSl (R := RF) (i := k_) (xs := L_rad) (e := el2) Try.underlying25 Try.sizeOf22 (ev rfl) (ev rfl) (Sl.ext (Sl.ext hv_rad RF.mono (Ext.gr (Ext.refl w) E4)) RF.mono hu) (by omega) hel2).mono ?_; rintro v u' ⟨b, of, cs, hv, hc, hR, hu'⟩; subst hu'
    exact ⟨⟨b, of, cs, hv, hc, hR⟩, Ext.refl _⟩
  refine RW_d _ rfl (fun v => by dsimp only [List.set]; try rfl) (fun u hu hF => ?_) (fun v14 => ?_)
  · have h15_ : PtrR RF u v13 el2 := hF.1
    clear hF
    refine doesG_un rfl ?_
    obtain ⟨b15_, o15_, _, rfl, hc15_, ⟨r15_1, rfl, h15_2⟩⟩ := h15_
    refine (does_load (u := (Fl r15_1)) (ev rfl) Try.isAgg22 (Cells.at hc15_ 0 rfl)).mono ?_; rintro _ _ ⟨rfl, rfl⟩
    exact ⟨⟨r15_1, rfl, (by simp only [h15_2])⟩, Ext.refl _⟩
  refine RW_d _ rfl (fun v => by dsimp only [List.set]; try rfl) (fun u hu hF => ?_) (fun v15 => ?_)
  · have h12_ : ∃ r_1 : Nat, v10 = (Fl r_1) ∧ cf .f32 r_1 = el1 := hF.1
    have h16_ : ∃ r_1 : Nat, v14 = (Fl r_1) ∧ cf .f32 r_1 = el2 := hF.2.1
    clear hF
    refine doesG_un rfl ?_
    obtain ⟨r12_1, rfl, h12_2⟩ := h12_
    obtain ⟨r16_1, rfl, h16_2⟩ := h16_
    refine (does_float (.inl rfl) (ev rfl) (ev rfl)).mono ?_; rintro _ _ ⟨r, rfl, hr, hx⟩
    exact ⟨⟨r, rfl, (by simp only [hr, h12_2, h16_2])⟩, hx⟩
  refine RW_d _ rfl (fun v => by dsimp only [List.set]; try rfl) (fun u hu hF => ?_) (fun v16 => ?_)
  · clear hF
    refine doesG_un rfl ?_
    refine (does_move (u := (.slice p_ctr L_ctr.length q_ctr)) (ev rfl)).mono ?_; rintro _ _ ⟨rfl, rfl⟩
    exact ⟨rfl, Ext.refl _⟩
  refine RW_d _ rfl (fun v => by dsimp only [List.set]; try rfl) (fun u hu hF => ?_) (fun v17 => ?_)
  · clear hF
    refine doesG_un rfl ?_
    refine (does_move (u := (Iv k_)) (ev rfl)).mono ?_; rintro _ _ ⟨rfl, rfl⟩
    exact ⟨rfl, Ext.refl _⟩
  refine RW_d _ rfl (fun v => by dsimp only [List.set]; try rfl) (fun u hu hF => ?_) (fun v18 => ?_)
  · have h18_ : v16 = (.slice p_ctr L_ctr.length q_ctr) := hF.1
    have h19_ : v17 = (Iv k_) := hF.2.1
    clear hF
    refine doesG_un rfl ?_
    obtain rfl := h18_
    obtain rfl := h19_
    refine (does_indexSl (R := RV3) (i := k_) (xs := L_ctr) (e := el3) Try.underlying47 Try.sizeOf32 (ev rfl) (ev rfl) (Sl.ext (Sl.ext hv_ctr RV3.mono (Ext.gr (Ext.refl w) E4)) RV3.mono hu) (by omega) hel3).mono ?_; rintro v u' ⟨b, of, cs, hv, hc, hR, hu'⟩; subst hu'
    exact ⟨⟨b, of, cs, hv, hc, hR⟩, Ext.refl _⟩
  refine RW_d _ rfl (fun v => by dsimp only [List.set]; try rfl) (fun u hu hF => ?_) (fun v19 => ?_)
  · have h20_ : PtrR RV3 u v18 el3 := hF.1
    clear hF
    refine doesG_un rfl ?_
    obtain ⟨b20_, o20_, _, rfl, hc20_, ⟨r20_1, r20_3, r20_5, rfl, h20_2, h20_4, h20_6⟩⟩ := h20_
    refine (does_loadAgg (cs := [(Fl r20_1), (Fl r20_3), (Fl r20_5)]) (ev rfl) Try.isAgg32 Try.sizeOf32 hc20_ rfl).mono ?_; rintro _ _ ⟨rfl, rfl⟩
    exact ⟨⟨[(Fl r20_1), (Fl r20_3), (Fl r20_5)], rfl, ⟨r20_1, r20_3, r20_5, rfl, (by first | assumption | rfl), (by first | assumption | rfl), (by first | assumption | rfl)⟩⟩, Ext.refl _⟩
  refine RW_d _ rfl (fun v => by dsimp only [List.set]; try rfl) (fun u hu hF => ?_) (fun v20 => ?_)
  · clear hF
    refine doesG_un rfl ?_
    refine (does_move (u := (.slice p_ctr L_ctr.length q_ctr)) (ev rfl)).mono ?_; rintro _ _ ⟨rfl, rfl⟩
    exact ⟨rfl, Ext.refl _⟩
  refine RW_d _ rfl (fun v => by dsimp only [List.set]; try rfl) (fun u hu hF => ?_) (fun v21 => ?_)
  · clear hF
    refine doesG_un rfl ?_
    refine (does_move (u := (Iv i_)) (ev rfl)).mono ?_; rintro _ _ ⟨rfl, rfl⟩
    exact ⟨rfl, Ext.refl _⟩
  refine RW_d _ rfl (fun v => by dsimp only [List.set]; try rfl) (fun u hu hF => ?_) (fun v22 => ?_)
  · have h22_ : v20 = (.slice p_ctr L_ctr.length q_ctr) := hF.1
    have h23_ : v21 = (Iv i_) := hF.2.1
    clear hF
    refine doesG_un rfl ?_
    obtain rfl := h22_
    obtain rfl := h23_
    refine (does_indexSl (R := RV3) (i := i_) (xs := L_ctr) (e := el4) Try.underlying47 Try.sizeOf32 (ev rfl) (ev rfl) (Sl.ext (Sl.ext hv_ctr RV3.mono (Ext.gr (Ext.refl w) E4)) RV3.mono hu) (by omega) hel4).mono ?_; rintro v u' ⟨b, of, cs, hv, hc, hR, hu'⟩; subst hu'
    exact ⟨⟨b, of, cs, hv, hc, hR⟩, Ext.refl _⟩
  refine RW_d _ rfl (fun v => by dsimp only [List.set]; try rfl) (fun u hu hF => ?_) (fun v23 => ?_)
  · have h24_ : PtrR RV3 u v22 el4 := hF.1
    clear hF
    refine doesG_un rfl ?_
    obtain ⟨b24_, o24_, _, rfl, hc24_, ⟨r24_1, r24_3, r24_5, rfl, h24_2, h24_4, h24_6⟩⟩ := h24_
    refine (does_loadAgg (cs := [(Fl r24_1), (Fl r24_3), (Fl r24_5)]) (ev rfl) Try.isAgg32 Try.sizeOf32 hc24_ rfl).mono ?_; rintro _ _ ⟨rfl, rfl⟩
    exact ⟨⟨[(Fl r24_1), (Fl r24_3), (Fl r24_5)], rfl, ⟨r24_1, r24_3, r24_5, rfl, (by first | assumption | rfl), (by first | assumption | rfl), (by first | assumption | rfl)⟩⟩, Ext.refl _⟩
  refine RW_d _ rfl (fun v => by dsimp only [List.set]; try rfl) (fun u hu hF => ?_) (fun v24 => ?_)
  · have h21_ : ∃ cs_1 : List Value, v19 = (.agg cs_1.toArray) ∧ RV3 w el3 cs_1 := hF.1
    have h25_ : ∃ cs_1 : List Value, v23 = (.agg cs_1.toArray) ∧ RV3 w el4 cs_1 := hF.2.1
    clear hF
    refine doesG_un rfl ?_
    obtain ⟨_, rfl, ⟨r21_1, r21_3, r21_5, rfl, h21_2, h21_4, h21_6⟩⟩ := h21_
    obtain ⟨_, rfl, ⟨r25_1, r25_3, r25_5, rfl, h25_2, h25_4, h25_6⟩⟩ := h25_
    refine (does_call (args := #[(.agg #[(Fl r21_1), (Fl r21_3), (Fl r21_5)]), (.agg #[(Fl r25_1), (Fl r25_3), (Fl r25_5)])]) cal63 (evs rfl) (c_impl_LessVectors [(Fl r21_1), (Fl r21_3), (Fl r21_5)] el3 [(Fl r25_1), (Fl r25_3), (Fl r25_5)] el4 _ ⟨r21_1, r21_3, r21_5, rfl, (by assumption), (by assumption), (by assumption)⟩ ⟨r25_1, r25_3, r25_5, rfl, (by assumption), (by assumption), (by assumption)⟩)).mono ?_; rintro v u' ⟨hx, ⟨csn1, hv, k0⟩⟩
    exact ⟨⟨csn1, hv.trans (by simp only [h21_2, h21_4, h21_6, h25_2, h25_4, h25_6]), (by first | exact k0 | simpa only [h21_2, h21_4, h21_6, h25_2, h25_4, h25_6] using RV3.any (w := w) k0)⟩, hx⟩
  refine RW_d _ rfl (fun v => by dsimp only [List.set]; try rfl) (fun u hu hF => ?_) (fun v25 => ?_)
  · have h26_ : ∃ cs_1 : List Value, v24 = (.agg cs_1.toArray) ∧ RV3 w (vsub el3 el4) cs_1 := hF.1
    clear hF
    refine doesG_un rfl ?_
    obtain ⟨_, rfl, ⟨r26_1, r26_3, r26_5, rfl, h26_2, h26_4, h26_6⟩⟩ := h26_
    refine (does_call (args := #[(.agg #[(Fl r26_1), (Fl r26_3), (Fl r26_5)])]) cal85 (evs rfl) (c_impl_LongOf [(Fl r26_1), (Fl r26_3), (Fl r26_5)] (vsub el3 el4) _ ⟨r26_1, r26_3, r26_5, rfl, (by assumption), (by assumption), (by assumption)⟩)).mono ?_; rintro v u' ⟨hx, ⟨rn1, hv, k0⟩⟩
    exact ⟨⟨rn1, hv.trans (by simp only [h26_2, h26_4, h26_6]), (by simp only [k0, h26_2, h26_4, h26_6])⟩, hx⟩
  refine RW_d _ rfl (fun v => by dsimp only [List.set]; try rfl) (fun u hu hF => ?_) (fun v26 => ?_)
  · have h17_ : ∃ r_1 : Nat, v15 = (Fl r_1) ∧ cf .f32 r_1 = fop .add .f32 el1 el2 := hF.1
    have h27_ : ∃ r_1 : Nat, v25 = (Fl r_1) ∧ cf .f32 r_1 = longF (vsub el3 el4) := hF.2.1
    clear hF
    refine doesG_un rfl ?_
    obtain ⟨r17_1, rfl, h17_2⟩ := h17_
    obtain ⟨r27_1, rfl, h27_2⟩ := h27_
    refine (does_float (.inr (.inl rfl)) (ev rfl) (ev rfl)).mono ?_; rintro _ _ ⟨r, rfl, hr, hx⟩
    exact ⟨⟨r, rfl, (by simp only [hr, h17_2, h27_2])⟩, hx⟩
  refine RW_fin ?_; intro w27 E28 hP29
  obtain ⟨⟨⟨⟨⟨⟨⟨⟨⟨⟨⟨⟨⟨⟨⟨⟨⟨⟨⟨⟨-, -⟩, -⟩, -⟩, -⟩, -⟩, -⟩, -⟩, -⟩, -⟩, -⟩, -⟩, -⟩, -⟩, -⟩, -⟩, -⟩, -⟩, -⟩, -⟩, q30⟩ := hP29
  have X31 := Ext.gr X6 E28
  have q30 : ∃ r_1 : Nat, v26 = (Fl r_1) ∧ cf .f32 r_1 = fop .sub .f32 (fop .add .f32 el1 el2) (longF (vsub el3 el4)) := q30
  obtain ⟨r32, rfl, h33⟩ := q30
  show wpList _ _ _ _ (fr [_, _, _, _, _, _, _, _, _, _, _, _, _, _, _, _, _, _, _, _, _, _, _, _, _, _, _, _, _]) _
  refine q_is rfl rfl (does_assign (u := (Fl r32)) (ev rfl)) (by dsimp only [List.set]; try rfl) ?_
  refine wpList_nil (hK2 _ _ ?_)
  refine wp_ret ?_
  refine ret_val (v := (Fl r32)) (res_T rfl (slot rfl)) X31 ?_
  have x34 : cf .f32 r32 = ovF L_ctr L_rad i_.toNat k_.toNat := by first | with_reducible rfl | (simp only [ovF, Option.getD_some, hel1, hel2, hel3, hel4, h33]; done) | (simp [ovF, Option.getD_some, hel1, hel2, hel3, hel4, h33]; done) | rfl
  exact ⟨r32, rfl, x34⟩

/- impl.ScaleVector -/
theorem c_impl_ScaleVector (a : List Value) (A_a : V3) (b : Nat) (w : World) (hv_a : RV3 w A_a a) : Gives Try.prog 64 #[(.agg a.toArray), (Fl b)] w (fun v w' => ∃ cs_1 : List Value, v = (.agg cs_1.toArray) ∧ RV3 w (vscale A_a (cf .f32 b)) cs_1) := by
  obtain ⟨r1, r3, r5, rfl, h2, h4, h6⟩ := hv_a
  refine enter [(.agg #[(Fl r1), (Fl r3), (Fl r5)]), (Fl b), Ud, Ud, Ud, Ud, Ud, Ud, Ud, Ud, Ud, Ud, Ud, Ud, Ud, Ud, Ud, Ud] Try.func64 rfl Try.ntmps64 rfl ?_
  refine wp_seq_k fun K7 hK7 => ?_
  refine wp_region_lit ?_
  refine seqd rfl rfl (does_box (u := (.agg #[(Fl r1), (Fl r3), (Fl r5)])) (ev rfl)) ?_; rintro _ w12 ⟨b8, rfl, hb9, hB10, E11⟩
  have g13 : w.heap.size ≤ b8 := Nat.le_trans (Below.size (Ext.refl w)) hb9
  change Blk _ _ [(Fl r1), (Fl r3), (Fl r5)] at hB10
  have X14 := Ext.gr (Ext.refl w) E11
  show wpList _ _ _ _ (fr [(.agg #[(Fl r1), (Fl r3), (Fl r5)]), (Fl b), (Pt b8 0), Ud, Ud, Ud, Ud, Ud, Ud, Ud, Ud, Ud, Ud, Ud, Ud, Ud, Ud, Ud]) _
  refine seqd rfl rfl (does_alloc z32) ?_; rintro _ w19 ⟨b15, rfl, hb16, hB17, E18⟩
  have n20 : b8 < b15 := Nat.lt_of_lt_of_le (Blk.lt hB10) hb16
  have g21 : w.heap.size ≤ b15 := Nat.le_trans (Below.size X14) hb16
  change Blk _ _ [(Fl 0), (Fl 0), (Fl 0)] at hB17
  have X22 := Ext.gr X14 E18
  show wpList _ _ _ _ (fr [(.agg #[(Fl r1), (Fl r3), (Fl r5)]), (Fl b), (Pt b8 0), Ud, (Pt b15 0), Ud, Ud, Ud, Ud, Ud, Ud, Ud, Ud, Ud, Ud, Ud, Ud, Ud]) _
  refine wpList_nil (hK7 _ _ ?_)
  refine wp_seq_k fun K23 hK23 => ?_
  refine wp_region_lit ?_
  refine q_is (l' := [(.agg #[(Fl r1), (Fl r3), (Fl r5)]), (Fl b), (Pt b8 0), Ud, (Pt b15 0), (Pt b8 0), Ud, Ud, Ud, Ud, Ud, Ud, Ud, Ud, Ud, Ud, Ud, Ud]) rfl rfl (does_fieldAddr (ev rfl) fa32_0) rfl ?_
  refine q_is (l' := [(.agg #[(Fl r1), (Fl r3), (Fl r5)]), (Fl b), (Pt b8 0), Ud, (Pt b15 0), (Pt b8 0), (Fl r1), Ud, Ud, Ud, Ud, Ud, Ud, Ud, Ud, Ud, Ud, Ud]) rfl rfl (does_load (u := (Fl r1)) (ev rfl) Try.isAgg22 (Cells.at (Blk.cells (hB10.ext E18)) 0 rfl)) rfl ?_
  refine q_is (l' := [(.agg #[(Fl r1), (Fl r3), (Fl r5)]), (Fl b), (Pt b8 0), Ud, (Pt b15 0), (Pt b8 0), (Fl r1), (Fl b), Ud, Ud, Ud, Ud, Ud, Ud, Ud, Ud, Ud, Ud]) rfl rfl (does_move (u := (Fl b)) (ev rfl)) rfl ?_
  refine seqd rfl rfl (does_float (.inr (.inr (.inl rfl))) (ev rfl) (ev rfl)) ?_; rintro _ w27 ⟨r24, rfl, h25, E26⟩
  have X28 := Ext.gr X22 E26
  show wpList _ _ _ _ (fr [(.agg #[(Fl r1), (Fl r3), (Fl r5)]), (Fl b), (Pt b8 0), Ud, (Pt b15 0), (Pt b8 0), (Fl r1), (Fl b), (Fl r24), Ud, Ud, Ud, Ud, Ud, Ud, Ud, Ud, Ud]) _
  refine q_is (l' := [(.agg #[(Fl r1), (Fl r3), (Fl r5)]), (Fl b), (Pt b8 0), Ud, (Pt b15 0), (Pt b8 0), (Fl r1), (Fl b), (Fl r24), (Pt b8 1), Ud, Ud, Ud, Ud, Ud, Ud, Ud, Ud]) rfl rfl (does_fieldAddr (ev rfl) fa32_1) rfl ?_
  refine q_is (l' := [(.agg #[(Fl r1), (Fl r3), (Fl r5)]), (Fl b), (Pt b8 0), Ud, (Pt b15 0), (Pt b8 0), (Fl r1), (Fl b), (Fl r24), (Pt b8 1), (Fl r3), Ud, Ud, Ud, Ud, Ud, Ud, Ud]) rfl rfl (does_load (u := (Fl r3)) (ev rfl) Try.isAgg22 (Cells.at (Blk.cells ((hB10.ext E18).ext E26)) 1 rfl)) rfl ?_
  refine q_is (l' := [(.agg #[(Fl r1), (Fl r3), (Fl r5)]), (Fl b), (Pt b8 0), Ud, (Pt b15 0), (Pt b8 0), (Fl r1), (Fl b), (Fl r24), (Pt b8 1), (Fl r3), (Fl b), Ud, Ud, Ud, Ud, Ud, Ud]) rfl rfl (does_move (u := (Fl b)) (ev rfl)) rfl ?_
  refine seqd rfl rfl (does_float (.inr (.inr (.inl rfl))) (ev rfl) (ev rfl)) ?_; rintro _ w32 ⟨r29, rfl, h30, E31⟩
  have X33 := Ext.gr X28 E31
  show wpList _ _ _ _ (fr [(.agg #[(Fl r1), (Fl r3), (Fl r5)]), (Fl b), (Pt b8 0), Ud, (Pt b15 0), (Pt b8 0), (Fl r1), (Fl b), (Fl r24), (Pt b8 1), (Fl r3), (Fl b), (Fl r29), Ud, Ud, Ud, Ud, Ud]) _
  refine q_is (l' := [(.agg #[(Fl r1), (Fl r3), (Fl r5)]), (Fl b), (Pt b8 0), Ud, (Pt b15 0), (Pt b8 0), (Fl r1), (Fl b), (Fl r24), (Pt b8 1), (Fl r3), (Fl b), (Fl r29), (Pt b8 2), Ud, Ud, Ud, Ud]) rfl rfl (does_fieldAddr (ev rfl) fa32_2) rfl ?_
  refine q_is (l' := [(.agg #[(Fl r1), (Fl r3), (Fl r5)]), (Fl b), (Pt b8 0), Ud, (Pt b15 0), (Pt b8 0), (Fl r1), (Fl b), (Fl r24), (Pt b8 1), (Fl r3), (Fl b), (Fl r29), (Pt b8 2), (Fl r5), Ud, Ud, Ud]) rfl rfl (does_load (u := (Fl r5)) (ev rfl) Try.isAgg22 (Cells.at (Blk.cells (((hB10.ext E18).ext E26).ext E31)) 2 rfl)) rfl ?_
  refine q_is (l' := [(.agg #[(Fl r1), (Fl r3), (Fl r5)]), (Fl b), (Pt b8 0), Ud, (Pt b15 0), (Pt b8 0), (Fl r1), (Fl b), (Fl r24), (Pt b8 1), (Fl r3), (Fl b), (Fl r29), (Pt b8 2), (Fl r5), (Fl b), Ud, Ud]) rfl rfl (does_move (u := (Fl b)) (ev rfl)) rfl ?_
  refine seqd rfl rfl (does_float (.inr (.inr (.inl rfl))) (ev rfl) (ev rfl)) ?_; rintro _ w37 ⟨r34, rfl, h35, E36⟩
  have X38 := Ext.gr X33 E36
  show wpList _ _ _ _ (fr [(.agg #[(Fl r1), (Fl r3), (Fl r5)]), (Fl b), (Pt b8 0), Ud, (Pt b15 0), (Pt b8 0), (Fl r1), (Fl b), (Fl r24), (Pt b8 1), (Fl r3), (Fl b), (Fl r29), (Pt b8 2), (Fl r5), (Fl b), (Fl r34), Ud]) _
  refine q_is (l' := [(.agg #[(Fl r1), (Fl r3), (Fl r5)]), (Fl b), (Pt b8 0), Ud, (Pt b15 0), (Pt b8 0), (Fl r1), (Fl b), (Fl r24), (Pt b8 1), (Fl r3), (Fl b), (Fl r29), (Pt b8 2), (Fl r5), (Fl b), (Fl r34), (.agg #[(Fl r24), (Fl r29), (Fl r34)])]) rfl rfl (does_build (parts' := [(0, (Fl r24)), (1, (Fl r29)), (2, (Fl r34))]) (cells := #[(Fl r24), (Fl r29), (Fl r34)]) (evp rfl) (by kernel_rfl)) rfl ?_
  refine seqn rfl rfl (does_store (n := 3) (cs := [(Fl 0), (Fl 0), (Fl 0)]) (u := (.agg #[(Fl r24), (Fl r29), (Fl r34)])) (ev rfl) (ev rfl) Try.sizeOf32 rfl (((hB17.ext E26).ext E31).ext E36) (Nat.le_of_ble_eq_true rfl) rfl) ?_; rintro _ w41 ⟨rfl, W39, hB40⟩
  change Blk _ _ [(Fl r24), (Fl r29), (Fl r34)] at hB40
  have X42 := Below.wr X38 W39 g21
  refine wpList_nil (hK23 _ _ ?_)
  refine wp_ret ?_
  refine ret_val (v := (.agg #[(Fl r24), (Fl r29), (Fl r34)])) (res_C rfl (slot rfl) (run_loadAgg (cs := [(Fl r24), (Fl r29), (Fl r34)]) Try.isAgg32 Try.sizeOf32 (Blk.cells hB40) rfl)) X42 ?_
  have x43 : cf .f32 r24 = (vscale A_a (cf .f32 b)).x := by first | with_reducible rfl | (simp only [vscale, h2, h4, h6, h25, h30, h35]; done) | (simp [vscale, h2, h4, h6, h25, h30, h35]; done) | rfl
  have x44 : cf .f32 r29 = (vscale A_a (cf .f32 b)).y := by first | with_reducible rfl | (simp only [vscale, h2, h4, h6, h25, h30, h35]; done) | (simp [vscale, h2, h4, h6, h25, h30, h35]; done) | rfl
  have x45 : cf .f32 r34 = (vscale A_a (cf .f32 b)).z := by first | with_reducible rfl | (simp only [vscale, h2, h4, h6, h25, h30, h35]; done) | (simp [vscale, h2, h4, h6, h25, h30, h35]; done) | rfl
  exact ⟨[(Fl r24), (Fl r29), (Fl r34)], rfl, ⟨r24, r29, r34, rfl, x43, x44, x45⟩⟩

/- impl.finite$1 -/
theorem c_impl_finite_1 (x : Nat) (w : World) : Gives Try.prog 96 #[(Fl x)] w (fun v w' => v = (Bo (!finF (cf .f32 x)))) := by
  refine enter [(Fl x), Ud, Ud, Ud, Ud, Ud] Try.func96 rfl Try.ntmps96 rfl ?_
  refine wp_seq_k fun K1 hK1 => ?_
  refine wp_region_lit ?_
  refine q_is (l' := [(Fl x), Ud, (Bo false), Ud, Ud, Ud]) rfl rfl (does_assign (u := (Bo false)) (ev rfl)) rfl ?_
  refine wpList_nil (hK1 _ _ ?_)
  refine wp_seq_k fun K2 hK2 => ?_
  refine wp_region_lit ?_
  refine q_is (l' := [(Fl x), Ud, (Bo false), (Fl x), Ud, Ud]) rfl rfl (does_move (u := (Fl x)) (ev rfl)) rfl ?_
  refine seqd rfl rfl (does_call (args := #[(Fl x)]) cal84 (evs rfl) (c_impl_IsFinite x _)) ?_; rintro _ w4 ⟨E3, rfl⟩
  have X5 := Ext.gr (Ext.refl w) E3
  show wpList _ _ _ _ (fr [(Fl x), Ud, (Bo false), (Fl x), (Bo (finF (cf .f32 x))), Ud]) _
  refine q_is (l' := [(Fl x), Ud, (Bo false), (Fl x), (Bo (finF (cf .f32 x))), (Bo (!(finF (cf .f32 x))))]) rfl rfl (does_not (ev rfl)) rfl ?_
  refine q_is (l' := [(Fl x), Ud, (Bo (!(finF (cf .f32 x)))), (Fl x), (Bo (finF (cf .f32 x))), (Bo (!(finF (cf .f32 x))))]) rfl rfl (does_assign (u := (Bo (!(finF (cf .f32 x))))) (ev rfl)) rfl ?_
  refine wpList_nil (hK2 _ _ ?_)
  refine wp_ret ?_
  refine ret_val (v := (Bo (!(finF (cf .f32 x))))) (res_T rfl (slot rfl)) X5 ?_
  have x6 : (!finF (cf .f32 x)) = (!(finF (cf .f32 x))) := by first | with_reducible rfl | (simp only []; done) | (simp []; done) | rfl
  exact (by first | with_reducible rfl | rw [x6] | rfl)

/- impl.finite -/
theorem c_impl_finite (xs : Value) (L_xs : List Nat) (w : World) (hv_xs : Sl RF 1 w xs L_xs) : Gives Try.prog 86 #[xs] w (fun v w' => v = (Bo (!L_xs.any (fun x => !finF x)))) := by
  have hlen_xs := Sl.len hv_xs; obtain ⟨p_xs, q_xs, rfl⟩ := Sl.shape hv_xs
  refine enter [(.slice p_xs L_xs.length q_xs), Ud, Ud, Ud, Ud, Ud] Try.func86 rfl Try.ntmps86 rfl ?_
  refine wp_seq_k fun K1 hK1 => ?_
  refine wp_region_lit ?_
  refine q_is (l' := [(.slice p_xs L_xs.length q_xs), Ud, (Bo false), Ud, Ud, Ud]) rfl rfl (does_assign (u := (Bo false)) (ev rfl)) rfl ?_
  refine wpList_nil (hK1 _ _ ?_)
  refine wp_seq_k fun K2 hK2 => ?_
  refine wp_region_lit ?_
  refine q_is (l' := [(.slice p_xs L_xs.length q_xs), Ud, (Bo false), (.slice p_xs L_xs.length q_xs), Ud, Ud]) rfl rfl (does_move (u := (.slice p_xs L_xs.length q_xs)) (ev rfl)) rfl ?_
  refine seqd rfl rfl (does_call (args := #[(.slice p_xs L_xs.length q_xs), (.func (.func 96) #[] #[])]) cal82 (evs rfl) (c_slices_ContainsFunc_float32_float32 (.slice p_xs L_xs.length q_xs) L_xs (.func (.func 96) #[] #[]) (fun x => !finF x) _ hv_xs ⟨96, #[], #[], rfl, cal96, fun r u hu' => by simpa using (c_impl_finite_1 r u)⟩)) ?_; rintro _ w4 ⟨E3, rfl⟩
  have X5 := Ext.gr (Ext.refl w) E3
  show wpList _ _ _ _ (fr [(.slice p_xs L_xs.length q_xs), Ud, (Bo false), (.slice p_xs L_xs.length q_xs), (Bo (L_xs.any (fun x => !finF x))), Ud]) _
  refine q_is (l' := [(.slice p_xs L_xs.length q_xs), Ud, (Bo false), (.slice p_xs L_xs.length q_xs), (Bo (L_xs.any (fun x => !finF x))), (Bo (!(L_xs.any (fun x => !finF x))))]) rfl rfl (does_not (ev rfl)) rfl ?_
  refine q_is (l' := [(.slice p_xs L_xs.length q_xs), Ud, (Bo (!(L_xs.any (fun x => !finF x)))), (.slice p_xs L_xs.length q_xs), (Bo (L_xs.any (fun x => !finF x))), (Bo (!(L_xs.any (fun x => !finF x))))]) rfl rfl (does_assign (u := (Bo (!(L_xs.any (fun x => !finF x))))) (ev rfl)) rfl ?_
  refine wpList_nil (hK2 _ _ ?_)
  refine wp_ret ?_
  refine ret_val (v := (Bo (!(L_xs.any (fun x => !finF x))))) (res_T rfl (slot rfl)) X5 ?_
  have x6 : (!L_xs.any (fun x => !finF x)) = (!(L_xs.any (fun x => !finF x))) := by first | with_reducible rfl | (simp only []; done) | (simp []; done) | rfl
  exact (by first | with_reducible rfl | rw [x6] | rfl)

/- impl.UnitOf -/
theorem c_impl_UnitOf (v : List Value) (A_v : V3) (w : World) (hv_v : RV3 w A_v v) : Gives Try.prog 62 #[(.agg v.toArray)] w (fun v w' => ∃ cs_1 : List Value, v = (.agg cs_1.toArray) ∧ RV3 w (unitF A_v) cs_1) := by
  obtain ⟨r1, r3, r5, rfl, h2, h4, h6⟩ := hv_v
  refine enter [(.agg #[(Fl r1), (Fl r3), (Fl r5)]), Ud, Ud, Ud, Ud, Ud, Ud, Ud, Ud, Ud, Ud, Ud, Ud, Ud, Ud, Ud, Ud, Ud, Ud, Ud, Ud, Ud] Try.func62 rfl Try.ntmps62 rfl ?_
  refine wp_seq_k fun K7 hK7 => ?_
  refine wp_region_lit ?_
  refine seqd rfl rfl (does_box (u := (.agg #[(Fl r1), (Fl r3), (Fl r5)])) (ev rfl)) ?_; rintro _ w12 ⟨b8, rfl, hb9, hB10, E11⟩
  have g13 : w.heap.size ≤ b8 := Nat.le_trans (Below.size (Ext.refl w)) hb9
  change Blk _ _ [(Fl r1), (Fl r3), (Fl r5)] at hB10
  have X14 := Ext.gr (Ext.refl w) E11
  show wpList _ _ _ _ (fr [(.agg #[(Fl r1), (Fl r3), (Fl r5)]), (Pt b8 0), Ud, Ud, Ud, Ud, Ud, Ud, Ud, Ud, Ud, Ud, Ud, Ud, Ud, Ud, Ud, Ud, Ud, Ud, Ud, Ud]) _
  refine seqd rfl rfl (does_alloc z32) ?_; rintro _ w19 ⟨b15, rfl, hb16, hB17, E18⟩
  have n20 : b8 < b15 := Nat.lt_of_lt_of_le (Blk.lt hB10) hb16
  have g21 : w.heap.size ≤ b15 := Nat.le_trans (Below.size X14) hb16
  change Blk _ _ [(Fl 0), (Fl 0), (Fl 0)] at hB17
  have X22 := Ext.gr X14 E18
  show wpList _ _ _ _ (fr [(.agg #[(Fl r1), (Fl r3), (Fl r5)]), (Pt b8 0), (Pt b15 0), Ud, Ud, Ud, Ud, Ud, Ud, Ud, Ud, Ud, Ud, Ud, Ud, Ud, Ud, Ud, Ud, Ud, Ud, Ud]) _
  refine wpList_nil (hK7 _ _ ?_)
  refine wp_seq_k fun K23 hK23 => ?_
  refine wp_region_lit ?_
  refine q_is (l' := [(.agg #[(Fl r1), (Fl r3), (Fl r5)]), (Pt b8 0), (Pt b15 0), Ud, Ud, (.agg #[(Fl r1), (Fl r3), (Fl r5)]), Ud, Ud, Ud, Ud, Ud, Ud, Ud, Ud, Ud, Ud, Ud, Ud, Ud, Ud, Ud, Ud]) rfl rfl (does_loadAgg (cs := [(Fl r1), (Fl r3), (Fl r5)]) (ev rfl) Try.isAgg32 Try.sizeOf32 (Blk.cells (hB10.ext E18)) rfl) rfl ?_
  refine seqd rfl rfl (does_call (args := #[(.agg #[(Fl r1), (Fl r3), (Fl r5)])]) cal85 (evs rfl) (c_impl_LongOf [(Fl r1), (Fl r3), (Fl r5)] A_v _ ⟨r1, r3, r5, rfl, h2, h4, h6⟩)) ?_; rintro _ w25 ⟨E24, ⟨r26, rfl, h27⟩⟩
  have X28 := Ext.gr X22 E24
  show wpList _ _ _ _ (fr [(.agg #[(Fl r1), (Fl r3), (Fl r5)]), (Pt b8 0), (Pt b15 0), Ud, Ud, (.agg #[(Fl r1), (Fl r3), (Fl r5)]), (Fl r26), Ud, Ud, Ud, Ud, Ud, Ud, Ud, Ud, Ud, Ud, Ud, Ud, Ud, Ud, Ud]) _
  refine q_is (l' := [(.agg #[(Fl r1), (Fl r3), (Fl r5)]), (Pt b8 0), (Pt b15 0), (Fl r26), Ud, (.agg #[(Fl r1), (Fl r3), (Fl r5)]), (Fl r26), Ud, Ud, Ud, Ud, Ud, Ud, Ud, Ud, Ud, Ud, Ud, Ud, Ud, Ud, Ud]) rfl rfl (does_assign (u := (Fl r26)) (ev rfl)) rfl ?_
  refine wpList_nil (hK23 _ _ ?_)
  refine wp_seq_k fun K29 hK29 => ?_
  refine wp_region_lit ?_
  refine q_is (l' := [(.agg #[(Fl r1), (Fl r3), (Fl r5)]), (Pt b8 0), (Pt b15 0), (Fl r26), Ud, (.agg #[(Fl r1), (Fl r3), (Fl r5)]), (Fl r26), (Fl r26), Ud, Ud, Ud, Ud, Ud, Ud, Ud, Ud, Ud, Ud, Ud, Ud, Ud, Ud]) rfl rfl (does_move (u := (Fl r26)) (ev rfl)) rfl ?_
  refine seqd rfl rfl (does_float (.inr (.inr (.inr rfl))) (ev rfl) (ev rfl)) ?_; rintro _ w33 ⟨r30, rfl, h31, E32⟩
  have X34 := Ext.gr X28 E32
  show wpList _ _ _ _ (fr [(.agg #[(Fl r1), (Fl r3), (Fl r5)]), (Pt b8 0), (Pt b15 0), (Fl r26), Ud, (.agg #[(Fl r1), (Fl r3), (Fl r5)]), (Fl r26), (Fl r26), (Fl r30), Ud, Ud, Ud, Ud, Ud, Ud, Ud, Ud, Ud, Ud, Ud, Ud, Ud]) _
  refine q_is (l' := [(.agg #[(Fl r1), (Fl r3), (Fl r5)]), (Pt b8 0), (Pt b15 0), (Fl r26), (Fl r30), (.agg #[(Fl r1), (Fl r3), (Fl r5)]), (Fl r26), (Fl r26), (Fl r30), Ud, Ud, Ud, Ud, Ud, Ud, Ud, Ud, Ud, Ud, Ud, Ud, Ud]) rfl rfl (does_assign (u := (Fl r30)) (ev rfl)) rfl ?_
  refine wpList_nil (hK29 _ _ ?_)
  refine wp_seq_k fun K35 hK35 => ?_
  refine wp_seq_k fun K36 hK36 => ?_
  obtain ⟨β1, hβ1⟩ : ∃ b : Bool, b = (fcmp .eql (ford .f32 (cf .f32 r26) (cf .f32 0))) := ⟨_, rfl⟩
  obtain ⟨β2, hβ2⟩ : ∃ b : Bool, b = (!([(cf .f32 r26), (cf .f32 r30)]).any (fun x => !finF x)) := ⟨_, rfl⟩
  refine region_text (
    [Fact.pure [] (fun v => v = (Fl r26)),
    Fact.pure [9] (fun v => v = (Bo β1)),
    Fact.pure [10] (fun v => v = (Bo β1)),
    Fact.pure [11] (fun v => β1 = false → v = (Fl r26)),
    Fact.pure [11] (fun v => β1 = false → v = (Fl r30)),
    Fact.mem [12, 13, 11] (fun v w' => β1 = false → ∃ b : Nat, v = .slice (some ⟨b, 0, none⟩) 2 2 ∧ w33.heap.size ≤ b ∧ Blk w' b [(Fl r26), (Fl r30)]) (by intro v w1 w2 hx h hg1; obtain ⟨b, rfl, hb, hB⟩ := h hg1; exact ⟨b, rfl, hb, (hB.ext hx)⟩),
    Fact.pure [14, 11] (fun v => β1 = false → v = (Bo β2)),
    Fact.pure [15, 11] (fun v => β1 = false → v = (Bo (!β2))),
    Fact.pure [11, 16] (fun v => v = (Bo (β1 || (!β2))))]) (by simp [Fact.pure, Fact.mem]) ?_
  refine RW_d (fun v37 => [(.agg #[(Fl r1), (Fl r3), (Fl r5)]), (Pt b8 0), (Pt b15 0), (Fl r26), (Fl r30), (.agg #[(Fl r1), (Fl r3), (Fl r5)]), (Fl r26), (Fl r26), (Fl r30), v37, Ud, Ud, Ud, Ud, Ud, Ud, Ud, Ud, Ud, Ud, Ud, Ud]) rfl (fun _ => rfl) (fun u hu hF => ?_) (fun v37 => ?_)
  · clear hF
    refine doesG_un rfl ?_
    refine (does_move (u := (Fl r26)) (ev rfl)).mono ?_; rintro _ _ ⟨rfl, rfl⟩
    exact ⟨rfl, Ext.refl _⟩
  refine RW_d (fun v38 => [(.agg #[(Fl r1), (Fl r3), (Fl r5)]), (Pt b8 0), (Pt b15 0), (Fl r26), (Fl r30), (.agg #[(Fl r1), (Fl r3), (Fl r5)]), (Fl r26), (Fl r26), (Fl r30), v37, v38, Ud, Ud, Ud, Ud, Ud, Ud, Ud, Ud, Ud, Ud, Ud]) rfl (fun _ => rfl) (fun u hu hF => ?_) (fun v38 => ?_)
  · have h9_ : v37 = (Fl r26) := hF.1
    clear hF
    refine doesG_un rfl ?_
    obtain rfl := h9_
    refine (does_fcmp (.inl rfl) (ev rfl) (ev rfl)).mono ?_; rintro _ _ ⟨rfl, rfl⟩
    exact ⟨(by first | rfl | (show _ = _; simp only [hβ1]; done) | (show _ = _; simp only [hβ1]; rfl)), Ext.refl _⟩
  refine RW_d (fun v39 => [(.agg #[(Fl r1), (Fl r3), (Fl r5)]), (Pt b8 0), (Pt b15 0), (Fl r26), (Fl r30), (.agg #[(Fl r1), (Fl r3), (Fl r5)]), (Fl r26), (Fl r26), (Fl r30), v37, v38, v39, Ud, Ud, Ud, Ud, Ud, Ud, Ud, Ud, Ud, Ud]) rfl (fun _ => rfl) (fun u hu hF => ?_) (fun v39 => ?_)
  · have h10_ : v38 = (Bo β1) := hF.1
    clear hF
    refine doesG_un rfl ?_
    obtain rfl := h10_
    refine (does_move (u := (Bo β1)) (ev rfl)).mono ?_; rintro _ _ ⟨rfl, rfl⟩
    exact ⟨rfl, Ext.refl _⟩
  refine RW_d (fun v40 => [(.agg #[(Fl r1), (Fl r3), (Fl r5)]), (Pt b8 0), (Pt b15 0), (Fl r26), (Fl r30), (.agg #[(Fl r1), (Fl r3), (Fl r5)]), (Fl r26), (Fl r26), (Fl r30), v37, v38, v39, v40, Ud, Ud, Ud, Ud, Ud, Ud, Ud, Ud, Ud]) rfl (fun _ => rfl) (fun u hu hF => ?_) (fun v40 => ?_)
  · have h11_ : v39 = (Bo β1) := hF.1
    clear hF
    obtain rfl := h11_
    refine doesG_g (b := β1) rfl (yld rfl rfl) (fun hg1 => ?_) (fun hc => ⟨fun hg1 => absurd hg1 hc, Ext.refl _⟩)
    refine (does_move (u := (Fl r26)) (ev rfl)).mono ?_; rintro _ _ ⟨rfl, rfl⟩
    exact ⟨fun _ => rfl, Ext.refl _⟩
  refine RW_d (fun v41 => [(.agg #[(Fl r1), (Fl r3), (Fl r5)]), (Pt b8 0), (Pt b15 0), (Fl r26), (Fl r30), (.agg #[(Fl r1), (Fl r3), (Fl r5)]), (Fl r26), (Fl r26), (Fl r30), v37, v38, v39, v40, v41, Ud, Ud, Ud, Ud, Ud, Ud, Ud, Ud]) rfl (fun _ => rfl) (fun u hu hF => ?_) (fun v41 => ?_)
  · have h11_ : v39 = (Bo β1) := hF.1
    clear hF
    obtain rfl := h11_
    refine doesG_g (b := β1) rfl (yld rfl rfl) (fun hg1 => ?_) (fun hc => ⟨fun hg1 => absurd hg1 hc, Ext.refl _⟩)
    refine (does_move (u := (Fl r30)) (ev rfl)).mono ?_; rintro _ _ ⟨rfl, rfl⟩
    exact ⟨fun _ => rfl, Ext.refl _⟩
  refine RW_d (fun v42 => [(.agg #[(Fl r1), (Fl r3), (Fl r5)]), (Pt b8 0), (Pt b15 0), (Fl r26), (Fl r30), (.agg #[(Fl r1), (Fl r3), (Fl r5)]), (Fl r26), (Fl r26), (Fl r30), v37, v38, v39, v40, v41, v42, Ud, Ud, Ud, Ud, Ud, Ud, Ud]) rfl (fun _ => rfl) (fun u hu hF => ?_) (fun v42 => ?_)
  · have h12_ : β1 = false → v40 = (Fl r26) := hF.1
    have h13_ : β1 = false → v41 = (Fl r30) := hF.2.1
    have h11_ : v39 = (Bo β1) := hF.2.2.1
    clear hF
    obtain rfl := h11_
    refine doesG_g (b := β1) rfl (yld rfl rfl) (fun hg1 => ?_) (fun hc => ⟨fun hg1 => absurd hg1 hc, Ext.refl _⟩)
    obtain rfl := h12_ hg1
    obtain rfl := h13_ hg1
    refine (does_buildSlice (e := 22) (parts' := [(0, (Fl r26)), (1, (Fl r30))]) (cells := [(Fl r26), (Fl r30)]) (evp rfl) (fun _ => by kernel_rfl)).mono ?_; rintro _ _ ⟨b, rfl, hb, hB, hx⟩
    exact ⟨fun _ => ⟨b, rfl, Nat.le_trans (Below.size hu) hb, hB⟩, hx⟩
  refine RW_d (fun v43 => [(.agg #[(Fl r1), (Fl r3), (Fl r5)]), (Pt b8 0), (Pt b15 0), (Fl r26), (Fl r30), (.agg #[(Fl r1), (Fl r3), (Fl r5)]), (Fl r26), (Fl r26), (Fl r30), v37, v38, v39, v40, v41, v42, v43, Ud, Ud, Ud, Ud, Ud, Ud]) rfl (fun _ => rfl) (fun u hu hF => ?_) (fun v43 => ?_)
  · have h14_ : β1 = false → ∃ b : Nat, v42 = .slice (some ⟨b, 0, none⟩) 2 2 ∧ w33.heap.size ≤ b ∧ Blk u b [(Fl r26), (Fl r30)] := hF.1
    have h11_ : v39 = (Bo β1) := hF.2.1
    clear hF
    obtain rfl := h11_
    refine doesG_g (b := β1) rfl (yld rfl rfl) (fun hg1 => ?_) (fun hc => ⟨fun hg1 => absurd hg1 hc, Ext.refl _⟩)
    obtain ⟨b14_, rfl, hb14_, hB14_⟩ := h14_ hg1
    refine (does_call (args := #[(.slice (some ⟨b14_, 0, none⟩) 2 2)]) cal86 (evs rfl) (c_impl_finite (.slice (some ⟨b14_, 0, none⟩) 2 2) [(cf .f32 r26), (cf .f32 r30)] _ (Sl_lit2 hB14_ ⟨_, rfl, rfl⟩ ⟨_, rfl, rfl⟩))).mono ?_; rintro v u' ⟨hx, hv⟩
    exact ⟨fun _ => hv.trans (by simp only [hβ2]), hx⟩
  refine RW_d (fun v44 => [(.agg #[(Fl r1), (Fl r3), (Fl r5)]), (Pt b8 0), (Pt b15 0), (Fl r26), (Fl r30), (.agg #[(Fl r1), (Fl r3), (Fl r5)]), (Fl r26), (Fl r26), (Fl r30), v37, v38, v39, v40, v41, v42, v43, v44, Ud, Ud, Ud, Ud, Ud]) rfl (fun _ => rfl) (fun u hu hF => ?_) (fun v44 => ?_)
  · have h15_ : β1 = false → v43 = (Bo β2) := hF.1
    have h11_ : v39 = (Bo β1) := hF.2.1
    clear hF
    obtain rfl := h11_
    refine doesG_g (b := β1) rfl (yld rfl rfl) (fun hg1 => ?_) (fun hc => ⟨fun hg1 => absurd hg1 hc, Ext.refl _⟩)
    obtain rfl := h15_ hg1
    refine (does_not (ev rfl)).mono ?_; rintro _ _ ⟨rfl, rfl⟩
    exact ⟨fun _ => rfl, Ext.refl _⟩
  refine RW_d (fun v45 => [(.agg #[(Fl r1), (Fl r3), (Fl r5)]), (Pt b8 0), (Pt b15 0), (Fl r26), (Fl r30), (.agg #[(Fl r1), (Fl r3), (Fl r5)]), (Fl r26), (Fl r26), (Fl r30), v37, v38, v39, v40, v41, v42, v43, v44, v45, Ud, Ud, Ud, Ud]) rfl (fun _ => rfl) (fun u hu hF => ?_) (fun v45 => ?_)
  · have h11_ : v39 = (Bo β1) := hF.1
    have h16_ : β1 = false → v44 = (Bo (!β2)) := hF.2.1
    clear hF
    refine doesG_un rfl ?_
    skip
    obtain rfl := h11_
    refine (does_pick (b := β1) (u := (Bo true)) (v := v44) (ev rfl) (ev rfl) (ev rfl)).mono ?_; rintro _ _ ⟨rfl, rfl⟩; refine ⟨?_, Ext.refl _⟩; skip
    cases hbb : β1
    all_goals first | (show _ = _; simp only [↓reduceIte, Bool.true_and, Bool.false_and, Bool.true_or, Bool.false_or, Bool.false_eq_true]; done) | (have e_ := h16_ hbb; subst e_; show _ = _; simp only [↓reduceIte, Bool.true_and, Bool.false_and, Bool.true_or, Bool.false_or, Bool.false_eq_true]; done) | rfl | (have e_ := h16_ hbb; subst e_; rfl) | (simp [hbb] at h16_ ⊢; first | done | rfl | (subst h16_; rfl) | simp_all) | (simp [hbb] at h16_ ⊢; done)
  refine RW_fin ?_; intro w46 E47 hP48
  obtain ⟨⟨⟨⟨⟨⟨⟨⟨⟨-, -⟩, -⟩, -⟩, -⟩, -⟩, -⟩, -⟩, -⟩, q49⟩ := hP48
  have X50 := Ext.gr X34 E47
  have q49 : v45 = (Bo (β1 || (!β2))) := q49
  obtain rfl := q49
  show wpList _ _ _ _ (fr [(.agg #[(Fl r1), (Fl r3), (Fl r5)]), (Pt b8 0), (Pt b15 0), (Fl r26), (Fl r30), (.agg #[(Fl r1), (Fl r3), (Fl r5)]), (Fl r26), (Fl r26), (Fl r30), v37, v38, v39, v40, v41, v42, v43, v44, (Bo (β1 || (!β2))), Ud, Ud, Ud, Ud]) _
  refine wpList_nil (hK36 _ _ ?_)
  refine wp_cond_split (t := β1 || (!β2)) (ev rfl) (fun c51 => ?_) (fun c51 => ?_)
  · have c51' := c51
    (try simp only [hβ1, hβ2, any2_finF] at c51')
    (try simp only [hβ1, hβ2] at c51')
    (try simp only [icmp, Bool.and_eq_true, Bool.or_eq_true, Bool.and_eq_false_iff, Bool.or_eq_false_iff, Bool.not_eq_true', Bool.not_eq_false', decide_eq_true_eq, decide_eq_false_iff_not, beq_iff_eq, bne_iff_ne, beq_eq_false_iff_ne, bne_eq_false_iff_eq] at c51')
    refine wp_seq_k fun K52 hK52 => ?_
    refine wp_region_lit ?_
    refine q_is (l' := [(.agg #[(Fl r1), (Fl r3), (Fl r5)]), (Pt b8 0), (Pt b15 0), (Fl r26), (Fl r30), (.agg #[(Fl r1), (Fl r3), (Fl r5)]), (Fl r26), (Fl r26), (Fl r30), v37, v38, v39, v40, v41, v42, v43, v44, (Bo (β1 || (!β2))), (.agg #[(Fl 0), (Fl 0), (Fl 0)]), Ud, Ud, Ud]) rfl rfl (does_build (parts' := []) (cells := #[(Fl 0), (Fl 0), (Fl 0)]) (evp rfl) (by kernel_rfl)) rfl ?_
    refine seqn rfl rfl (does_store (n := 3) (cs := [(Fl 0), (Fl 0), (Fl 0)]) (u := (.agg #[(Fl 0), (Fl 0), (Fl 0)])) (ev rfl) (ev rfl) Try.sizeOf32 rfl (((hB17.ext E24).ext E32).ext E47) (Nat.le_of_ble_eq_true rfl) rfl) ?_; rintro _ w55 ⟨rfl, W53, hB54⟩
    change Blk _ _ [(Fl 0), (Fl 0), (Fl 0)] at hB54
    have X56 := Below.wr X50 W53 g21
    refine wpList_nil (hK52 _ _ ?_)
    refine wp_ret ?_
    dsimp only [Exit.then, Exit.inBlock]
    refine ret_val (v := (.agg #[(Fl 0), (Fl 0), (Fl 0)])) (res_C rfl (slot rfl) (run_loadAgg (cs := [(Fl 0), (Fl 0), (Fl 0)]) Try.isAgg32 Try.sizeOf32 (Blk.cells hB54) rfl)) X56 ?_
    try simp only [h2, h4, h6, h27, h31, hβ1, hβ2, any2_finF] at c51
    have x57 : cf .f32 0 = (unitF A_v).x := by first | (rw [unit_zero1 (by assumption)]; rfl) | (rw [unit_zero2 (by assumption)]; rfl) | (rw [unit_by1 (by assumption)]; simp only [vscale, h2, h4, h6, h27, h31, hβ1, hβ2, c51]; done) | (rw [unit_by2 (by assumption)]; simp only [vscale, h2, h4, h6, h27, h31, hβ1, hβ2, c51]; done)
    have x58 : cf .f32 0 = (unitF A_v).y := by first | (rw [unit_zero1 (by assumption)]; rfl) | (rw [unit_zero2 (by assumption)]; rfl) | (rw [unit_by1 (by assumption)]; simp only [vscale, h2, h4, h6, h27, h31, hβ1, hβ2, c51]; done) | (rw [unit_by2 (by assumption)]; simp only [vscale, h2, h4, h6, h27, h31, hβ1, hβ2, c51]; done)
    have x59 : cf .f32 0 = (unitF A_v).z := by first | (rw [unit_zero1 (by assumption)]; rfl) | (rw [unit_zero2 (by assumption)]; rfl) | (rw [unit_by1 (by assumption)]; simp only [vscale, h2, h4, h6, h27, h31, hβ1, hβ2, c51]; done) | (rw [unit_by2 (by assumption)]; simp only [vscale, h2, h4, h6, h27, h31, hβ1, hβ2, c51]; done)
    exact ⟨[(Fl 0), (Fl 0), (Fl 0)], rfl, ⟨0, 0, 0, rfl, x57, x58, x59⟩⟩
  have c51' := c51
  (try simp only [hβ1, hβ2, any2_finF] at c51')
  (try simp only [hβ1, hβ2] at c51')
  (try simp only [icmp, Bool.and_eq_true, Bool.or_eq_true, Bool.and_eq_false_iff, Bool.or_eq_false_iff, Bool.not_eq_true', Bool.not_eq_false', decide_eq_true_eq, decide_eq_false_iff_not, beq_iff_eq, bne_iff_ne, beq_eq_false_iff_ne, bne_eq_false_iff_eq] at c51')
  refine wp_skip (hK35 _ _ ?_)
  refine wp_seq_k fun K60 hK60 => ?_
  refine wp_region_lit ?_
  refine q_is (l' := [(.agg #[(Fl r1), (Fl r3), (Fl r5)]), (Pt b8 0), (Pt b15 0), (Fl r26), (Fl r30), (.agg #[(Fl r1), (Fl r3), (Fl r5)]), (Fl r26), (Fl r26), (Fl r30), v37, v38, v39, v40, v41, v42, v43, v44, (Bo (β1 || (!β2))), Ud, (.agg #[(Fl r1), (Fl r3), (Fl r5)]), Ud, Ud]) rfl rfl (does_loadAgg (cs := [(Fl r1), (Fl r3), (Fl r5)]) (ev rfl) Try.isAgg32 Try.sizeOf32 (Blk.cells ((((hB10.ext E18).ext E24).ext E32).ext E47)) rfl) rfl ?_
  refine q_is (l' := [(.agg #[(Fl r1), (Fl r3), (Fl r5)]), (Pt b8 0), (Pt b15 0), (Fl r26), (Fl r30), (.agg #[(Fl r1), (Fl r3), (Fl r5)]), (Fl r26), (Fl r26), (Fl r30), v37, v38, v39, v40, v41, v42, v43, v44, (Bo (β1 || (!β2))), Ud, (.agg #[(Fl r1), (Fl r3), (Fl r5)]), (Fl r30), Ud]) rfl rfl (does_move (u := (Fl r30)) (ev rfl)) rfl ?_
  refine seqd rfl rfl (does_call (args := #[(.agg #[(Fl r1), (Fl r3), (Fl r5)]), (Fl r30)]) cal64 (evs rfl) (c_impl_ScaleVector [(Fl r1), (Fl r3), (Fl r5)] A_v r30 _ ⟨r1, r3, r5, rfl, h2, h4, h6⟩)) ?_; rintro _ w62 ⟨E61, ⟨_, rfl, ⟨r63, r65, r67, rfl, h64, h66, h68⟩⟩⟩
  have X69 := Ext.gr X50 E61
  show wpList _ _ _ _ (fr [(.agg #[(Fl r1), (Fl r3), (Fl r5)]), (Pt b8 0), (Pt b15 0), (Fl r26), (Fl r30), (.agg #[(Fl r1), (Fl r3), (Fl r5)]), (Fl r26), (Fl r26), (Fl r30), v37, v38, v39, v40, v41, v42, v43, v44, (Bo (β1 || (!β2))), Ud, (.agg #[(Fl r1), (Fl r3), (Fl r5)]), (Fl r30), (.agg #[(Fl r63), (Fl r65), (Fl r67)])]) _
  refine seqn rfl rfl (does_store (n := 3) (cs := [(Fl 0), (Fl 0), (Fl 0)]) (u := (.agg #[(Fl r63), (Fl r65), (Fl r67)])) (ev rfl) (ev rfl) Try.sizeOf32 rfl ((((hB17.ext E24).ext E32).ext E47).ext E61) (Nat.le_of_ble_eq_true rfl) rfl) ?_; rintro _ w72 ⟨rfl, W70, hB71⟩
  change Blk _ _ [(Fl r63), (Fl r65), (Fl r67)] at hB71
  have X73 := Below.wr X69 W70 g21
  refine wpList_nil (hK60 _ _ ?_)
  refine wp_ret ?_
  refine ret_val (v := (.agg #[(Fl r63), (Fl r65), (Fl r67)])) (res_C rfl (slot rfl) (run_loadAgg (cs := [(Fl r63), (Fl r65), (Fl r67)]) Try.isAgg32 Try.sizeOf32 (Blk.cells hB71) rfl)) X73 ?_
  try simp only [h2, h4, h6, h27, h31, hβ1, hβ2, h64, h66, h68, any2_finF] at c51
  have x74 : cf .f32 r63 = (unitF A_v).x := by first | (rw [unit_zero1 (by assumption)]; rfl) | (rw [unit_zero2 (by assumption)]; rfl) | (rw [unit_by1 (by assumption)]; simp only [vscale, h2, h4, h6, h27, h31, hβ1, hβ2, h64, h66, h68, c51]; done) | (rw [unit_by2 (by assumption)]; simp only [vscale, h2, h4, h6, h27, h31, hβ1, hβ2, h64, h66, h68, c51]; done)
  have x75 : cf .f32 r65 = (unitF A_v).y := by first | (rw [unit_zero1 (by assumption)]; rfl) | (rw [unit_zero2 (by assumption)]; rfl) | (rw [unit_by1 (by assumption)]; simp only [vscale, h2, h4, h6, h27, h31, hβ1, hβ2, h64, h66, h68, c51]; done) | (rw [unit_by2 (by assumption)]; simp only [vscale, h2, h4, h6, h27, h31, hβ1, hβ2, h64, h66, h68, c51]; done)
  have x76 : cf .f32 r67 = (unitF A_v).z := by first | (rw [unit_zero1 (by assumption)]; rfl) | (rw [unit_zero2 (by assumption)]; rfl) | (rw [unit_by1 (by assumption)]; simp only [vscale, h2, h4, h6, h27, h31, hβ1, hβ2, h64, h66, h68, c51]; done) | (rw [unit_by2 (by assumption)]; simp only [vscale, h2, h4, h6, h27, h31, hβ1, hβ2, h64, h66, h68, c51]; done)
  exact ⟨[(Fl r63), (Fl r65), (Fl r67)], rfl, ⟨r63, r65, r67, rfl, x74, x75, x76⟩⟩

/- impl.AddVectors -/
theorem c_impl_AddVectors (a : List Value) (A_a : V3) (b : List Value) (A_b : V3) (w : World) (hv_a : RV3 w A_a a) (hv_b : RV3 w A_b b) : Gives Try.prog 65 #[(.agg a.toArray), (.agg b.toArray)] w (fun v w' => ∃ cs_1 : List Value, v = (.agg cs_1.toArray) ∧ RV3 w (vadd A_a A_b) cs_1) := by
  obtain ⟨r1, r3, r5, rfl, h2, h4, h6⟩ := hv_a
  obtain ⟨r7, r9, r11, rfl, h8, h10, h12⟩ := hv_b
  refine enter [(.agg #[(Fl r1), (Fl r3), (Fl r5)]), (.agg #[(Fl r7), (Fl r9), (Fl r11)]), Ud, Ud, Ud, Ud, Ud, Ud, Ud, Ud, Ud, Ud, Ud, Ud, Ud, Ud, Ud, Ud, Ud, Ud, Ud] Try.func65 rfl Try.ntmps65 rfl ?_
  refine wp_seq_k fun K13 hK13 => ?_
  refine wp_region_lit ?_
  refine seqd rfl rfl (does_box (u := (.agg #[(Fl r1), (Fl r3), (Fl r5)])) (ev rfl)) ?_; rintro _ w18 ⟨b14, rfl, hb15, hB16, E17⟩
  have g19 : w.heap.size ≤ b14 := Nat.le_trans (Below.size (Ext.refl w)) hb15
  change Blk _ _ [(Fl r1), (Fl r3), (Fl r5)] at hB16
  have X20 := Ext.gr (Ext.refl w) E17
  show wpList _ _ _ _ (fr [(.agg #[(Fl r1), (Fl r3), (Fl r5)]), (.agg #[(Fl r7), (Fl r9), (Fl r11)]), (Pt b14 0), Ud, Ud, Ud, Ud, Ud, Ud, Ud, Ud, Ud, Ud, Ud, Ud, Ud, Ud, Ud, Ud, Ud, Ud]) _
  refine seqd rfl rfl (does_box (u := (.agg #[(Fl r7), (Fl r9), (Fl r11)])) (ev rfl)) ?_; rintro _ w25 ⟨b21, rfl, hb22, hB23, E24⟩
  have n26 : b14 < b21 := Nat.lt_of_lt_of_le (Blk.lt hB16) hb22
  have g27 : w.heap.size ≤ b21 := Nat.le_trans (Below.size X20) hb22
  change Blk _ _ [(Fl r7), (Fl r9), (Fl r11)] at hB23
  have X28 := Ext.gr X20 E24
  show wpList _ _ _ _ (fr [(.agg #[(Fl r1), (Fl r3), (Fl r5)]), (.agg #[(Fl r7), (Fl r9), (Fl r11)]), (Pt b14 0), (Pt b21 0), Ud, Ud, Ud, Ud, Ud, Ud, Ud, Ud, Ud, Ud, Ud, Ud, Ud, Ud, Ud, Ud, Ud]) _
  refine seqd rfl rfl (does_alloc z32) ?_; rintro _ w33 ⟨b29, rfl, hb30, hB31, E32⟩
  have n34 : b14 < b29 := Nat.lt_of_lt_of_le (Blk.lt (hB16.ext E24)) hb30
  have n35 : b21 < b29 := Nat.lt_of_lt_of_le (Blk.lt hB23) hb30
  have g36 : w.heap.size ≤ b29 := Nat.le_trans (Below.size X28) hb30
  change Blk _ _ [(Fl 0), (Fl 0), (Fl 0)] at hB31
  have X37 := Ext.gr X28 E32
  show wpList _ _ _ _ (fr [(.agg #[(Fl r1), (Fl r3), (Fl r5)]), (.agg #[(Fl r7), (Fl r9), (Fl r11)]), (Pt b14 0), (Pt b21 0), (Pt b29 0), Ud, Ud, Ud, Ud, Ud, Ud, Ud, Ud, Ud, Ud, Ud, Ud, Ud, Ud, Ud, Ud]) _
  refine wpList_nil (hK13 _ _ ?_)
  refine wp_seq_k fun K38 hK38 => ?_
  refine wp_region_lit ?_
  refine q_is (l' := [(.agg #[(Fl r1), (Fl r3), (Fl r5)]), (.agg #[(Fl r7), (Fl r9), (Fl r11)]), (Pt b14 0), (Pt b21 0), (Pt b29 0), (Pt b14 0), Ud, Ud, Ud, Ud, Ud, Ud, Ud, Ud, Ud, Ud, Ud, Ud, Ud, Ud, Ud]) rfl rfl (does_fieldAddr (ev rfl) fa32_0) rfl ?_
  refine q_is (l' := [(.agg #[(Fl r1), (Fl r3), (Fl r5)]), (.agg #[(Fl r7), (Fl r9), (Fl r11)]), (Pt b14 0), (Pt b21 0), (Pt b29 0), (Pt b14 0), (Fl r1), Ud, Ud, Ud, Ud, Ud, Ud, Ud, Ud, Ud, Ud, Ud, Ud, Ud, Ud]) rfl rfl (does_load (u := (Fl r1)) (ev rfl) Try.isAgg22 (Cells.at (Blk.cells ((hB16.ext E24).ext E32)) 0 rfl)) rfl ?_
  refine q_is (l' := [(.agg #[(Fl r1), (Fl r3), (Fl r5)]), (.agg #[(Fl r7), (Fl r9), (Fl r11)]), (Pt b14 0), (Pt b21 0), (Pt b29 0), (Pt b14 0), (Fl r1), (Pt b21 0), Ud, Ud, Ud, Ud, Ud, Ud, Ud, Ud, Ud, Ud, Ud, Ud, Ud]) rfl rfl (does_fieldAddr (ev rfl) fa32_0) rfl ?_
  refine q_is (l' := [(.agg #[(Fl r1), (Fl r3), (Fl r5)]), (.agg #[(Fl r7), (Fl r9), (Fl r11)]), (Pt b14 0), (Pt b21 0), (Pt b29 0), (Pt b14 0), (Fl r1), (Pt b21 0), (Fl r7), Ud, Ud, Ud, Ud, Ud, Ud, Ud, Ud, Ud, Ud, Ud, Ud]) rfl rfl (does_load (u := (Fl r7)) (ev rfl) Try.isAgg22 (Cells.at (Blk.cells (hB23.ext E32)) 0 rfl)) rfl ?_
  refine seqd rfl rfl (does_float (.inl rfl) (ev rfl) (ev rfl)) ?_; rintro _ w42 ⟨r39, rfl, h40, E41⟩
  have X43 := Ext.gr X37 E41
  show wpList _ _ _ _ (fr [(.agg #[(Fl r1), (Fl r3), (Fl r5)]), (.agg #[(Fl r7), (Fl r9), (Fl r11)]), (Pt b14 0), (Pt b21 0), (Pt b29 0), (Pt b14 0), (Fl r1), (Pt b21 0), (Fl r7), (Fl r39), Ud, Ud, Ud, Ud, Ud, Ud, Ud, Ud, Ud, Ud, Ud]) _
  refine q_is (l' := [(.agg #[(Fl r1), (Fl r3), (Fl r5)]), (.agg #[(Fl r7), (Fl r9), (Fl r11)]), (Pt b14 0), (Pt b21 0), (Pt b29 0), (Pt b14 0), (Fl r1), (Pt b21 0), (Fl r7), (Fl r39), (Pt b14 1), Ud, Ud, Ud, Ud, Ud, Ud, Ud, Ud, Ud, Ud]) rfl rfl (does_fieldAddr (ev rfl) fa32_1) rfl ?_
  refine q_is (l' := [(.agg #[(Fl r1), (Fl r3), (Fl r5)]), (.agg #[(Fl r7), (Fl r9), (Fl r11)]), (Pt b14 0), (Pt b21 0), (Pt b29 0), (Pt b14 0), (Fl r1), (Pt b21 0), (Fl r7), (Fl r39), (Pt b14 1), (Fl r3), Ud, Ud, Ud, Ud, Ud, Ud, Ud, Ud, Ud]) rfl rfl (does_load (u := (Fl r3)) (ev rfl) Try.isAgg22 (Cells.at (Blk.cells (((hB16.ext E24).ext E32).ext E41)) 1 rfl)) rfl ?_
  refine q_is (l' := [(.agg #[(Fl r1), (Fl r3), (Fl r5)]), (.agg #[(Fl r7), (Fl r9), (Fl r11)]), (Pt b14 0), (Pt b21 0), (Pt b29 0), (Pt b14 0), (Fl r1), (Pt b21 0), (Fl r7), (Fl r39), (Pt b14 1), (Fl r3), (Pt b21 1), Ud, Ud, Ud, Ud, Ud, Ud, Ud, Ud]) rfl rfl (does_fieldAddr (ev rfl) fa32_1) rfl ?_
  refine q_is (l' := [(.agg #[(Fl r1), (Fl r3), (Fl r5)]), (.agg #[(Fl r7), (Fl r9), (Fl r11)]), (Pt b14 0), (Pt b21 0), (Pt b29 0), (Pt b14 0), (Fl r1), (Pt b21 0), (Fl r7), (Fl r39), (Pt b14 1), (Fl r3), (Pt b21 1), (Fl r9), Ud, Ud, Ud, Ud, Ud, Ud, Ud]) rfl rfl (does_load (u := (Fl r9)) (ev rfl) Try.isAgg22 (Cells.at (Blk.cells ((hB23.ext E32).ext E41)) 1 rfl)) rfl ?_
  refine seqd rfl rfl (does_float (.inl rfl) (ev rfl) (ev rfl)) ?_; rintro _ w47 ⟨r44, rfl, h45, E46⟩
  have X48 := Ext.gr X43 E46
  show wpList _ _ _ _ (fr [(.agg #[(Fl r1), (Fl r3), (Fl r5)]), (.agg #[(Fl r7), (Fl r9), (Fl r11)]), (Pt b14 0), (Pt b21 0), (Pt b29 0), (Pt b14 0), (Fl r1), (Pt b21 0), (Fl r7), (Fl r39), (Pt b14 1), (Fl r3), (Pt b21 1), (Fl r9), (Fl r44), Ud, Ud, Ud, Ud, Ud, Ud]) _
  refine q_is (l' := [(.agg #[(Fl r1), (Fl r3), (Fl r5)]), (.agg #[(Fl r7), (Fl r9), (Fl r11)]), (Pt b14 0), (Pt b21 0), (Pt b29 0), (Pt b14 0), (Fl r1), (Pt b21 0), (Fl r7), (Fl r39), (Pt b14 1), (Fl r3), (Pt b21 1), (Fl r9), (Fl r44), (Pt b14 2), Ud, Ud, Ud, Ud, Ud]) rfl rfl (does_fieldAddr (ev rfl) fa32_2) rfl ?_
  refine q_is (l' := [(.agg #[(Fl r1), (Fl r3), (Fl r5)]), (.agg #[(Fl r7), (Fl r9), (Fl r11)]), (Pt b14 0), (Pt b21 0), (Pt b29 0), (Pt b14 0), (Fl r1), (Pt b21 0), (Fl r7), (Fl r39), (Pt b14 1), (Fl r3), (Pt b21 1), (Fl r9), (Fl r44), (Pt b14 2), (Fl r5), Ud, Ud, Ud, Ud]) rfl rfl (does_load (u := (Fl r5)) (ev rfl) Try.isAgg22 (Cells.at (Blk.cells ((((hB16.ext E24).ext E32).ext E41).ext E46)) 2 rfl)) rfl ?_
  refine q_is (l' := [(.agg #[(Fl r1), (Fl r3), (Fl r5)]), (.agg #[(Fl r7), (Fl r9), (Fl r11)]), (Pt b14 0), (Pt b21 0), (Pt b29 0), (Pt b14 0), (Fl r1), (Pt b21 0), (Fl r7), (Fl r39), (Pt b14 1), (Fl r3), (Pt b21 1), (Fl r9), (Fl r44), (Pt b14 2), (Fl r5), (Pt b21 2), Ud, Ud, Ud]) rfl rfl (does_fieldAddr (ev rfl) fa32_2) rfl ?_
  refine q_is (l' := [(.agg #[(Fl r1), (Fl r3), (Fl r5)]), (.agg #[(Fl r7), (Fl r9), (Fl r11)]), (Pt b14 0), (Pt b21 0), (Pt b29 0), (Pt b14 0), (Fl r1), (Pt b21 0), (Fl r7), (Fl r39), (Pt b14 1), (Fl r3), (Pt b21 1), (Fl r9), (Fl r44), (Pt b14 2), (Fl r5), (Pt b21 2), (Fl r11), Ud, Ud]) rfl rfl (does_load (u := (Fl r11)) (ev rfl) Try.isAgg22 (Cells.at (Blk.cells (((hB23.ext E32).ext E41).ext E46)) 2 rfl)) rfl ?_
  refine seqd rfl rfl (does_float (.inl rfl) (ev rfl) (ev rfl)) ?_; rintro _ w52 ⟨r49, rfl, h50, E51⟩
  have X53 := Ext.gr X48 E51
  show wpList _ _ _ _ (fr [(.agg #[(Fl r1), (Fl r3), (Fl r5)]), (.agg #[(Fl r7), (Fl r9), (Fl r11)]), (Pt b14 0), (Pt b21 0), (Pt b29 0), (Pt b14 0), (Fl r1), (Pt b21 0), (Fl r7), (Fl r39), (Pt b14 1), (Fl r3), (Pt b21 1), (Fl r9), (Fl r44), (Pt b14 2), (Fl r5), (Pt b21 2), (Fl r11), (Fl r49), Ud]) _
  refine q_is (l' := [(.agg #[(Fl r1), (Fl r3), (Fl r5)]), (.agg #[(Fl r7), (Fl r9), (Fl r11)]), (Pt b14 0), (Pt b21 0), (Pt b29 0), (Pt b14 0), (Fl r1), (Pt b21 0), (Fl r7), (Fl r39), (Pt b14 1), (Fl r3), (Pt b21 1), (Fl r9), (Fl r44), (Pt b14 2), (Fl r5), (Pt b21 2), (Fl r11), (Fl r49), (.agg #[(Fl r39), (Fl r44), (Fl r49)])]) rfl rfl (does_build (parts' := [(0, (Fl r39)), (1, (Fl r44)), (2, (Fl r49))]) (cells := #[(Fl r39), (Fl r44), (Fl r49)]) (evp rfl) (by kernel_rfl)) rfl ?_
  refine seqn rfl rfl (does_store (n := 3) (cs := [(Fl 0), (Fl 0), (Fl 0)]) (u := (.agg #[(Fl r39), (Fl r44), (Fl r49)])) (ev rfl) (ev rfl) Try.sizeOf32 rfl (((hB31.ext E41).ext E46).ext E51) (Nat.le_of_ble_eq_true rfl) rfl) ?_; rintro _ w56 ⟨rfl, W54, hB55⟩
  change Blk _ _ [(Fl r39), (Fl r44), (Fl r49)] at hB55
  have X57 := Below.wr X53 W54 g36
  refine wpList_nil (hK38 _ _ ?_)
  refine wp_ret ?_
  refine ret_val (v := (.agg #[(Fl r39), (Fl r44), (Fl r49)])) (res_C rfl (slot rfl) (run_loadAgg (cs := [(Fl r39), (Fl r44), (Fl r49)]) Try.isAgg32 Try.sizeOf32 (Blk.cells hB55) rfl)) X57 ?_
  have x58 : cf .f32 r39 = (vadd A_a A_b).x := by first | with_reducible rfl | (simp only [vadd, h2, h4, h6, h8, h10, h12, h40, h45, h50]; done) | (simp [vadd, h2, h4, h6, h8, h10, h12, h40, h45, h50]; done) | rfl
  have x59 : cf .f32 r44 = (vadd A_a A_b).y := by first | with_reducible rfl | (simp only [vadd, h2, h4, h6, h8, h10, h12, h40, h45, h50]; done) | (simp [vadd, h2, h4, h6, h8, h10, h12, h40, h45, h50]; done) | rfl
  have x60 : cf .f32 r49 = (vadd A_a A_b).z := by first | with_reducible rfl | (simp only [vadd, h2, h4, h6, h8, h10, h12, h40, h45, h50]; done) | (simp [vadd, h2, h4, h6, h8, h10, h12, h40, h45, h50]; done) | rfl
  exact ⟨[(Fl r39), (Fl r44), (Fl r49)], rfl, ⟨r39, r44, r49, rfl, x58, x59, x60⟩⟩

/- impl.PartBalls -/
theorem c_impl_PartBalls (ctr : Value) (L_ctr : List V3) (rad : Value) (L_rad : List Nat) (rnd : Int) (w : World) (hv_ctr : Sl RV3 3 w ctr L_ctr) (hv_rad : Sl RF 1 w rad L_rad) : Gives Try.prog 25 #[ctr, rad, (Iv rnd)] w (fun v w' => ∃ y_1 : Value, ∃ Lw_2 : List Nat, v = (.tuple #[y_1, (Bo (ptOk L_ctr L_rad rnd))]) ∧ Hang w.heap.size w' (fun u => Sl RV3 3 u y_1 (ptL L_ctr L_rad rnd)) ∧ WL 3 w.heap.size w' Lw_2 y_1 (ptL L_ctr L_rad rnd).length) := by
  have hlen_ctr := Sl.len hv_ctr; obtain ⟨p_ctr, q_ctr, rfl⟩ := Sl.shape hv_ctr
  have hlen_rad := Sl.len hv_rad; obtain ⟨p_rad, q_rad, rfl⟩ := Sl.shape hv_rad
  refine enter [(.slice p_ctr L_ctr.length q_ctr), (.slice p_rad L_rad.length q_rad), (Iv rnd), Ud, Ud, Ud, Ud, Ud, Ud, Ud, Ud, Ud, Ud, Ud, Ud, Ud, Ud, Ud, Ud, Ud, Ud, Ud, Ud, Ud, Ud, Ud, Ud, Ud, Ud, Ud, Ud, Ud, Ud, Ud, Ud, Ud, Ud, Ud, Ud, Ud, Ud, Ud, Ud, Ud, Ud, Ud, Ud, Ud, Ud, Ud, Ud, Ud, Ud, Ud, Ud, Ud, Ud, Ud, Ud, Ud, Ud, Ud, Ud, Ud, Ud, Ud, Ud, Ud, Ud, Ud, Ud, Ud, Ud, Ud, Ud, Ud, Ud, Ud, Ud, Ud, Ud, Ud, Ud, Ud, Ud, Ud, Ud, Ud, Ud, Ud, Ud, Ud, Ud, Ud, Ud, Ud, Ud, Ud, Ud, Ud, Ud] Try.func25 rfl Try.ntmps25 rfl ?_
  refine wp_seq_k fun K1 hK1 => ?_
  refine wp_region_lit ?_
  refine q_is rfl rfl (does_assign (u := (.slice none 0 0)) (ev rfl)) (by dsimp only [List.set]; try rfl) ?_
  refine q_is rfl rfl (does_assign (u := (Bo false)) (ev rfl)) (by dsimp only [List.set]; try rfl) ?_
  refine wpList_nil (hK1 _ _ ?_)
  refine wp_seq_k fun K2 hK2 => ?_
  refine wp_seq_k fun K3 hK3 => ?_
  obtain ⟨β1, hβ1⟩ : ∃ b : Bool, b = ((!(okBalls L_ctr L_rad)) || (!(inI rnd 0 64))) := ⟨_, rfl⟩
  refine region_text (
    [Fact.pure [] (fun v => v = (.slice p_ctr L_ctr.length q_ctr)),
    Fact.pure [] (fun v => v = (.slice p_rad L_rad.length q_rad)),
    Fact.pure [14, 15] (fun v => v = (Bo (okBalls L_ctr L_rad))),
    Fact.pure [16] (fun v => v = (Bo (!(okBalls L_ctr L_rad)))),
    Fact.pure [17] (fun v => v = (Bo (!(okBalls L_ctr L_rad)))),
    Fact.pure [18] (fun v => (!(okBalls L_ctr L_rad)) = false → v = (Iv rnd)),
    Fact.pure [19, 18] (fun v => (!(okBalls L_ctr L_rad)) = false → v = (Bo (inI rnd 0 64))),
    Fact.pure [20, 18] (fun v => (!(okBalls L_ctr L_rad)) = false → v = (Bo (!(inI rnd 0 64)))),
    Fact.pure [18, 21] (fun v => v = (Bo β1))]) (by simp [Fact.pure, Fact.mem]) ?_
  refine RW_d _ rfl (fun v => by dsimp only [List.set]; try rfl) (fun u hu hF => ?_) (fun v4 => ?_)
  · clear hF
    refine doesG_un rfl ?_
    refine (does_move (u := (.slice p_ctr L_ctr.length q_ctr)) (ev rfl)).mono ?_; rintro _ _ ⟨rfl, rfl⟩
    exact ⟨rfl, Ext.refl _⟩
  refine RW_d _ rfl (fun v => by dsimp only [List.set]; try rfl) (fun u hu hF => ?_) (fun v5 => ?_)
  · clear hF
    refine doesG_un rfl ?_
    refine (does_move (u := (.slice p_rad L_rad.length q_rad)) (ev rfl)).mono ?_; rintro _ _ ⟨rfl, rfl⟩
    exact ⟨rfl, Ext.refl _⟩
  refine RW_d _ rfl (fun v => by dsimp only [List.set]; try rfl) (fun u hu hF => ?_) (fun v6 => ?_)
  · have h14_ : v4 = (.slice p_ctr L_ctr.length q_ctr) := hF.1
    have h15_ : v5 = (.slice p_rad L_rad.length q_rad) := hF.2.1
    clear hF
    refine doesG_un rfl ?_
    obtain rfl := h14_
    obtain rfl := h15_
    refine (does_call (args := #[(.slice p_ctr L_ctr.length q_ctr), (.slice p_rad L_rad.length q_rad)]) cal57 (evs rfl) (c_impl_ballsOk (.slice p_ctr L_ctr.length q_ctr) L_ctr (.slice p_rad L_rad.length q_rad) L_rad _ (Sl.ext hv_ctr RV3.mono hu) (Sl.ext hv_rad RF.mono hu))).mono ?_; rintro v u' ⟨hx, hv⟩
    exact ⟨hv, hx⟩
  refine RW_d _ rfl (fun v => by dsimp only [List.set]; try rfl) (fun u hu hF => ?_) (fun v7 => ?_)
  · have h16_ : v6 = (Bo (okBalls L_ctr L_rad)) := hF.1
    clear hF
    refine doesG_un rfl ?_
    obtain rfl := h16_
    refine (does_not (ev rfl)).mono ?_; rintro _ _ ⟨rfl, rfl⟩
    exact ⟨rfl, Ext.refl _⟩
  refine RW_d _ rfl (fun v => by dsimp only [List.set]; try rfl) (fun u hu hF => ?_) (fun v8 => ?_)
  · have h17_ : v7 = (Bo (!(okBalls L_ctr L_rad))) := hF.1
    clear hF
    refine doesG_un rfl ?_
    obtain rfl := h17_
    refine (does_move (u := (Bo (!(okBalls L_ctr L_rad)))) (ev rfl)).mono ?_; rintro _ _ ⟨rfl, rfl⟩
    exact ⟨rfl, Ext.refl _⟩
  refine RW_d _ rfl (fun v => by dsimp only [List.set]; try rfl) (fun u hu hF => ?_) (fun v9 => ?_)
  · have h18_ : v8 = (Bo (!(okBalls L_ctr L_rad))) := hF.1
    clear hF
    obtain rfl := h18_
    refine doesG_g (b := (!(okBalls L_ctr L_rad))) rfl (yld rfl rfl) (fun hg1 => ?_) (fun hc => ⟨fun hg1 => absurd hg1 hc, Ext.refl _⟩)
    refine (does_move (u := (Iv rnd)) (ev rfl)).mono ?_; rintro _ _ ⟨rfl, rfl⟩
    exact ⟨fun _ => rfl, Ext.refl _⟩
  refine RW_d _ rfl (fun v => by dsimp only [List.set]; try rfl) (fun u hu hF => ?_) (fun v10 => ?_)
  · have h19_ : (!(okBalls L_ctr L_rad)) = false → v9 = (Iv rnd) := hF.1
    have h18_ : v8 = (Bo (!(okBalls L_ctr L_rad))) := hF.2.1
    clear hF
    obtain rfl := h18_
    refine doesG_g (b := (!(okBalls L_ctr L_rad))) rfl (yld rfl rfl) (fun hg1 => ?_) (fun hc => ⟨fun hg1 => absurd hg1 hc, Ext.refl _⟩)
    obtain rfl := h19_ hg1
    refine (does_call (args := #[(Iv rnd)]) cal58 (evs rfl) (c_impl_roundsOk rnd _)).mono ?_; rintro v u' ⟨hx, hv⟩
    exact ⟨fun _ => hv, hx⟩
  refine RW_d _ rfl (fun v => by dsimp only [List.set]; try rfl) (fun u hu hF => ?_) (fun v11 => ?_)
  · have h20_ : (!(okBalls L_ctr L_rad)) = false → v10 = (Bo (inI rnd 0 64)) := hF.1
    have h18_ : v8 = (Bo (!(okBalls L_ctr L_rad))) := hF.2.1
    clear hF
    obtain rfl := h18_
    refine doesG_g (b := (!(okBalls L_ctr L_rad))) rfl (yld rfl rfl) (fun hg1 => ?_) (fun hc => ⟨fun hg1 => absurd hg1 hc, Ext.refl _⟩)
    obtain rfl := h20_ hg1
    refine (does_not (ev rfl)).mono ?_; rintro _ _ ⟨rfl, rfl⟩
    exact ⟨fun _ => rfl, Ext.refl _⟩
  refine RW_d _ rfl (fun v => by dsimp only [List.set]; try rfl) (fun u hu hF => ?_) (fun v12 => ?_)
  · have h18_ : v8 = (Bo (!(okBalls L_ctr L_rad))) := hF.1
    have h21_ : (!(okBalls L_ctr L_rad)) = false → v11 = (Bo (!(inI rnd 0 64))) := hF.2.1
    clear hF
    refine doesG_un rfl ?_
    skip
    obtain rfl := h18_
    refine (does_pick (b := (!(okBalls L_ctr L_rad))) (u := (Bo true)) (v := v11) (ev rfl) (ev rfl) (ev rfl)).mono ?_; rintro _ _ ⟨rfl, rfl⟩; refine ⟨?_, Ext.refl _⟩; rw [hβ1]; skip
    cases hbb : (!(okBalls L_ctr L_rad))
    all_goals first | (show _ = _; simp only [↓reduceIte, Bool.true_and, Bool.false_and, Bool.true_or, Bool.false_or, Bool.false_eq_true]; done) | (have e_ := h21_ hbb; subst e_; show _ = _; simp only [↓reduceIte, Bool.true_and, Bool.false_and, Bool.true_or, Bool.false_or, Bool.false_eq_true]; done) | rfl | (have e_ := h21_ hbb; subst e_; rfl) | (simp [hbb] at h21_ ⊢; first | done | rfl | (subst h21_; rfl) | simp_all) | (simp [hbb] at h21_ ⊢; done)
  refine RW_fin ?_; intro w13 E14 hP15
  obtain ⟨⟨⟨⟨⟨⟨⟨⟨⟨-, -⟩, -⟩, -⟩, -⟩, -⟩, -⟩, -⟩, -⟩, q16⟩ := hP15
  have X17 := Ext.gr (Ext.refl w) E14
  have q16 : v12 = (Bo β1) := q16
  obtain rfl := q16
  show wpList _ _ _ _ (fr [_, _, _, _, _, _, _, _, _, _, _, _, _, _, _, _, _, _, _, _, _, _, _, _, _, _, _, _, _, _, _, _, _, _, _, _, _, _, _, _, _, _, _, _, _, _, _, _, _, _, _, _, _, _, _, _, _, _, _, _, _, _, _, _, _, _, _, _, _, _, _, _, _, _, _, _, _, _, _, _, _, _, _, _, _, _, _, _, _, _, _, _, _, _, _, _, _, _, _, _, _]) _
  refine wpList_nil (hK3 _ _ ?_)
  refine wp_cond_split (t := β1) (ev rfl) (fun c18 => ?_) (fun c18 => ?_)
  · have c18' := c18
    (try simp only [hβ1] at c18')
    (try simp only [icmp, Bool.and_eq_true, Bool.or_eq_true, Bool.and_eq_false_iff, Bool.or_eq_false_iff, Bool.not_eq_true', Bool.not_eq_false', decide_eq_true_eq, decide_eq_false_iff_not, beq_iff_eq, bne_iff_ne, beq_eq_false_iff_ne, bne_eq_false_iff_eq] at c18')
    have hpf := ptOk_f c18'
    refine wp_seq_k fun K19 hK19 => ?_
    refine wp_region_lit ?_
    refine q_is rfl rfl (does_assign (u := (.slice none 0 0)) (ev rfl)) (by dsimp only [List.set]; try rfl) ?_
    refine q_is rfl rfl (does_assign (u := (Bo false)) (ev rfl)) (by dsimp only [List.set]; try rfl) ?_
    refine wpList_nil (hK19 _ _ ?_)
    refine wp_ret ?_
    dsimp only [Exit.then, Exit.inBlock]
    refine ret_val (v := (.tuple #[(.slice none 0 0), (Bo false)])) (res_TT rfl (slot rfl) (slot rfl)) X17 ?_
    try simp only [hβ1] at c18
    have x20 : (ptOk L_ctr L_rad rnd) = false := by first | exact hpf | exact hpt | (rw [ptL_f hpf] <;> rfl) | (rw [ptL_t (k := k) hpt hk (by omega)] <;> first | rfl | assumption)
    have x21 : ([]) = (ptL L_ctr L_rad rnd) := by first | exact hpf | exact hpt | (rw [ptL_f hpf] <;> rfl) | (rw [ptL_t (k := k) hpt hk (by omega)] <;> first | rfl | assumption)
    have x22 : ([]) = (ptL L_ctr L_rad rnd) := by first | exact hpf | exact hpt | (rw [ptL_f hpf] <;> rfl) | (rw [ptL_t (k := k) hpt hk (by omega)] <;> first | rfl | assumption)
    exact ⟨(.slice none 0 0), [], (by first | with_reducible rfl | rw [x20] | rfl), (Hang.castL (Sl.hang_nil _ _ _ _) x21), (WL.cast (WL.nil _ _ _) (congrArg List.length x22))⟩
  have c18' := c18
  (try simp only [hβ1] at c18')
  (try simp only [icmp, Bool.and_eq_true, Bool.or_eq_true, Bool.and_eq_false_iff, Bool.or_eq_false_iff, Bool.not_eq_true', Bool.not_eq_false', decide_eq_true_eq, decide_eq_false_iff_not, beq_iff_eq, bne_iff_ne, beq_eq_false_iff_ne, bne_eq_false_iff_eq] at c18')
  have hpt := ptOk_t c18'
  have hob := okBalls_len (c18').1
  have hrn := inI_iff.1 (c18').2
  have hpl := pairsTo_len L_ctr.length hob.2.1 L_ctr.length
  refine wp_skip (hK2 _ _ ?_)
  refine wp_seq_k fun K23 hK23 => ?_
  refine wp_region_lit ?_
  refine q_is rfl rfl (does_move (u := (.slice p_ctr L_ctr.length q_ctr)) (ev rfl)) (by dsimp only [List.set]; try rfl) ?_
  refine seqd rfl rfl (does_call (args := #[(.slice p_ctr L_ctr.length q_ctr)]) cal59 (evs rfl) (c_slices_Clone_impl_Vector_impl_Vector (.slice p_ctr L_ctr.length q_ctr) L_ctr _ (Sl.ext hv_ctr RV3.mono X17) (by omega))) ?_; rintro _ w25 ⟨E24, ⟨y27, Lw28, rfl, hh26, hw29⟩⟩
  have X30 := Ext.gr X17 E24
  obtain ⟨p31, q32, rfl⟩ := Sl.shape hh26.get
  have hw33 : WL 3 w13.heap.size w25 Lw28 (.slice p31 L_ctr.length q32) L_ctr.length := hw29
  show wpList _ _ _ _ (fr [_, _, _, _, _, _, _, _, _, _, _, _, _, _, _, _, _, _, _, _, _, _, _, _, _, _, _, _, _, _, _, _, _, _, _, _, _, _, _, _, _, _, _, _, _, _, _, _, _, _, _, _, _, _, _, _, _, _, _, _, _, _, _, _, _, _, _, _, _, _, _, _, _, _, _, _, _, _, _, _, _, _, _, _, _, _, _, _, _, _, _, _, _, _, _, _, _, _, _, _, _]) _
  refine q_is rfl rfl (does_assign (u := (.slice p31 L_ctr.length q32)) (ev rfl)) (by dsimp only [List.set]; try rfl) ?_
  refine wpList_nil (hK23 _ _ ?_)
  refine wp_seq_k fun K34 hK34 => ?_
  refine wp_seq_k fun K35 hK35 => ?_
  refine wp_region_lit ?_
  refine q_is rfl rfl (does_move (u := (Iv rnd)) (ev rfl)) (by dsimp only [List.set]; try rfl) ?_
  refine q_is rfl rfl (does_move (u := (Iv 0)) (ev rfl)) (by dsimp only [List.set]; try rfl) ?_
  refine wpList_nil (hK35 _ _ ?_)
  refine wp_block ?_
  obtain ⟨gr36, hp37, hL38, hR39, hcap40, hB41⟩ := WL.rowg (R := RV3) (k := 3) hw33 hh26.get (by omega)
  have g42 : w.heap.size ≤ gr36 := Nat.le_trans (Below.size E14) hB41
  subst hp37
  subst hL38
  have hl43 := RowG.lt hR39
  refine loop_ghost (σ := Nat) (fun k a w' => ∃ u44 : Nat → Value, a = fr [(.slice p_ctr L_ctr.length q_ctr), (.slice p_rad L_rad.length q_rad), (Iv rnd), Ud, Ud, Ud, (.slice none 0 0), (Bo false), (.slice (some ⟨gr36, 0, none⟩) L_ctr.length q32), Ud, (u44 10), (u44 11), (u44 12), (u44 13), v4, v5, v6, v7, v8, v9, v10, v11, (Bo β1), (.slice p_ctr L_ctr.length q_ctr), (.slice (some ⟨gr36, 0, none⟩) L_ctr.length q32), (Iv rnd), (Iv (k : Int)), (u44 27), (u44 28), (u44 29), (u44 30), (u44 31), (u44 32), (u44 33), (u44 34), (u44 35), (u44 36), (u44 37), (u44 38), (u44 39), (u44 40), (u44 41), (u44 42), (u44 43), (u44 44), (u44 45), (u44 46), (u44 47), (u44 48), (u44 49), (u44 50), (u44 51), (u44 52), (u44 53), (u44 54), (u44 55), (u44 56), (u44 57), (u44 58), (u44 59), (u44 60), (u44 61), (u44 62), (u44 63), (u44 64), (u44 65), (u44 66), (u44 67), (u44 68), (u44 69), (u44 70), (u44 71), (u44 72), (u44 73), (u44 74), (u44 75), (u44 76), (u44 77), (u44 78), (u44 79), (u44 80), (u44 81), (u44 82), (u44 83), (u44 84), (u44 85), (u44 86), (u44 87), (u44 88), (u44 89), (u44 90), (u44 91), (u44 92), (u44 93), (u44 94), (u44 95), (u44 96), (u44 97), (u44 98), (u44 99), Ud] ∧ KpL [gr36] w25 w' ∧ RowG RV3 3 w' gr36 (prN L_rad L_ctr k) ∧ ((k : Int) ≤ rnd)) (fun k => rnd.toNat - k) 0 ?_ ?_
  · refine ⟨fun t => (([(.slice p_ctr L_ctr.length q_ctr), (.slice p_rad L_rad.length q_rad), (Iv rnd), Ud, Ud, Ud, (.slice none 0 0), (Bo false), (.slice (some ⟨gr36, 0, none⟩) L_ctr.length q32), Ud, Ud, Ud, Ud, Ud, v4, v5, v6, v7, v8, v9, v10, v11, (Bo β1), (.slice p_ctr L_ctr.length q_ctr), (.slice (some ⟨gr36, 0, none⟩) L_ctr.length q32), (Iv rnd), (Iv 0), Ud, Ud, Ud, Ud, Ud, Ud, Ud, Ud, Ud, Ud, Ud, Ud, Ud, Ud, Ud, Ud, Ud, Ud, Ud, Ud, Ud, Ud, Ud, Ud, Ud, Ud, Ud, Ud, Ud, Ud, Ud, Ud, Ud, Ud, Ud, Ud, Ud, Ud, Ud, Ud, Ud, Ud, Ud, Ud, Ud, Ud, Ud, Ud, Ud, Ud, Ud, Ud, Ud, Ud, Ud, Ud, Ud, Ud, Ud, Ud, Ud, Ud, Ud, Ud, Ud, Ud, Ud, Ud, Ud, Ud, Ud, Ud, Ud, Ud] : List Value)[t]?).getD undef, rfl, KpL.refl _ _, (RowG.cast hR39 (by (try dsimp only); rfl)), ?_⟩
    exact hrn.1
  · rintro k a w45 ⟨u44, rfl, E46, hRg0, hk⟩
    have X48 := Below.kl X30 E46 (allS g42 all0) (Nat.le_refl _)
    have hR49 := hRg0; clear hRg0
    refine wp_seq_k fun K50 hK50 => ?_
    refine wp_region_lit ?_
    refine q_is rfl rfl (does_icmp (p := (k : Int)) (q := rnd) (.inr (.inr (.inl rfl))) (ev rfl) (ev rfl)) (by dsimp only [List.set]; try rfl) ?_
    refine wpList_nil (hK50 _ _ ?_)
    refine wp_seq_k fun K51 hK51 => ?_
    refine wp_cond_split (t := icmp .lss (k : Int) rnd) (ev rfl) (fun c52 => ?_) (fun c52 => ?_)
    · have c52' := c52
      (try simp only [hβ1] at c52')
      (try simp only [icmp, Bool.and_eq_true, Bool.or_eq_true, Bool.and_eq_false_iff, Bool.or_eq_false_iff, Bool.not_eq_true', Bool.not_eq_false', decide_eq_true_eq, decide_eq_false_iff_not, beq_iff_eq, bne_iff_ne, beq_eq_false_iff_ne, bne_eq_false_iff_eq] at c52')
      refine wp_skip (hK51 _ _ ?_)
      refine wp_seq_k fun K53 hK53 => ?_
      refine wp_block ?_
      refine wp_seq_k fun K54 hK54 => ?_
      refine wp_region_lit ?_
      refine q_is rfl rfl (does_move (u := (.slice (some ⟨gr36, 0, none⟩) L_ctr.length q32)) (ev rfl)) (by dsimp only [List.set]; try rfl) ?_
      refine q_is rfl rfl (does_len_slice Try.underlying47 (ev rfl)) (by dsimp only [List.set]; try rfl) ?_
      refine seqd rfl rfl (does_call (args := #[(Iv (L_ctr.length : Int))]) cal60 (evs rfl) (c_impl_ballPairs (L_ctr.length : Int) _ (by omega))) ?_; rintro _ w56 ⟨E55, ⟨y58, rfl, hh57⟩⟩
      have X59 := Ext.gr X48 E55
      have n60 : gr36 < w45.heap.size := RowG.lt hR49
      obtain ⟨p61, q62, rfl⟩ := Sl.shape hh57.get
      show wpList _ _ _ _ (fr [_, _, _, _, _, _, _, _, _, _, _, _, _, _, _, _, _, _, _, _, _, _, _, _, _, _, _, _, _, _, _, _, _, _, _, _, _, _, _, _, _, _, _, _, _, _, _, _, _, _, _, _, _, _, _, _, _, _, _, _, _, _, _, _, _, _, _, _, _, _, _, _, _, _, _, _, _, _, _, _, _, _, _, _, _, _, _, _, _, _, _, _, _, _, _, _, _, _, _, _, _]) _
      refine q_is rfl rfl (does_len_slice Try.underlying89 (ev rfl)) (by dsimp only [List.set]; try rfl) ?_
      refine q_is rfl rfl (does_move (u := (Iv 0)) (ev rfl)) (by dsimp only [List.set]; try rfl) ?_
      refine wpList_nil (hK54 _ _ ?_)
      refine wp_block ?_
      refine loop_ghost (σ := Nat) (fun m a w' => ∃ u63 : Nat → Value, a = fr [(.slice p_ctr L_ctr.length q_ctr), (.slice p_rad L_rad.length q_rad), (Iv rnd), Ud, Ud, Ud, (.slice none 0 0), (Bo false), (.slice (some ⟨gr36, 0, none⟩) L_ctr.length q32), Ud, (u63 10), (u63 11), (u63 12), (u63 13), v4, v5, v6, v7, v8, v9, v10, v11, (Bo β1), (.slice p_ctr L_ctr.length q_ctr), (.slice (some ⟨gr36, 0, none⟩) L_ctr.length q32), (Iv rnd), (Iv (k : Int)), (Bo (icmp .lss (k : Int) rnd)), (.slice (some ⟨gr36, 0, none⟩) L_ctr.length q32), (Iv (L_ctr.length : Int)), (.slice p61 ((pairsTo L_ctr.length L_ctr.length).length) q62), (Iv (((pairsTo L_ctr.length L_ctr.length).length) : Int)), (Iv (m : Int)), (u63 33), (u63 34), (u63 35), (u63 36), (u63 37), (u63 38), (u63 39), (u63 40), (u63 41), (u63 42), (u63 43), (u63 44), (u63 45), (u63 46), (u63 47), (u63 48), (u63 49), (u63 50), (u63 51), (u63 52), (u63 53), (u63 54), (u63 55), (u63 56), (u63 57), (u63 58), (u63 59), (u63 60), (u63 61), (u63 62), (u63 63), (u63 64), (u63 65), (u63 66), (u63 67), (u63 68), (u63 69), (u63 70), (u63 71), (u63 72), (u63 73), (u63 74), (u63 75), (u63 76), (u63 77), (u63 78), (u63 79), (u63 80), (u63 81), (u63 82), (u63 83), (u63 84), (u63 85), (u63 86), (u63 87), (u63 88), (u63 89), (u63 90), (u63 91), (u63 92), (u63 93), (u63 94), (u63 95), (u63 96), (u63 97), (u63 98), (u44 99), Ud] ∧ KpL [gr36] w56 w' ∧ RowG RV3 3 w' gr36 (((pairsTo L_ctr.length L_ctr.length).take m).foldl (partB L_rad) (prN L_rad L_ctr k)) ∧ (m ≤ (pairsTo L_ctr.length L_ctr.length).length)) (fun m => (pairsTo L_ctr.length L_ctr.length).length - m) 0 ?_ ?_
      · refine ⟨fun t => (([(.slice p_ctr L_ctr.length q_ctr), (.slice p_rad L_rad.length q_rad), (Iv rnd), Ud, Ud, Ud, (.slice none 0 0), (Bo false), (.slice (some ⟨gr36, 0, none⟩) L_ctr.length q32), Ud, (u44 10), (u44 11), (u44 12), (u44 13), v4, v5, v6, v7, v8, v9, v10, v11, (Bo β1), (.slice p_ctr L_ctr.length q_ctr), (.slice (some ⟨gr36, 0, none⟩) L_ctr.length q32), (Iv rnd), (Iv (k : Int)), (Bo (icmp .lss (k : Int) rnd)), (.slice (some ⟨gr36, 0, none⟩) L_ctr.length q32), (Iv (L_ctr.length : Int)), (.slice p61 ((pairsTo L_ctr.length L_ctr.length).length) q62), (Iv (((pairsTo L_ctr.length L_ctr.length).length) : Int)), (Iv 0), (u44 33), (u44 34), (u44 35), (u44 36), (u44 37), (u44 38), (u44 39), (u44 40), (u44 41), (u44 42), (u44 43), (u44 44), (u44 45), (u44 46), (u44 47), (u44 48), (u44 49), (u44 50), (u44 51), (u44 52), (u44 53), (u44 54), (u44 55), (u44 56), (u44 57), (u44 58), (u44 59), (u44 60), (u44 61), (u44 62), (u44 63), (u44 64), (u44 65), (u44 66), (u44 67), (u44 68), (u44 69), (u44 70), (u44 71), (u44 72), (u44 73), (u44 74), (u44 75), (u44 76), (u44 77), (u44 78), (u44 79), (u44 80), (u44 81), (u44 82), (u44 83), (u44 84), (u44 85), (u44 86), (u44 87), (u44 88), (u44 89), (u44 90), (u44 91), (u44 92), (u44 93), (u44 94), (u44 95), (u44 96), (u44 97), (u44 98), (u44 99), Ud] : List Value)[t]?).getD undef, rfl, KpL.refl _ _, (RowG.cast (RowG.ext hR49 RV3.flat E55) (by (try dsimp only); rfl)), ?_⟩
        exact Nat.zero_le _
      · rintro m a w64 ⟨u63, rfl, E65, hRg0, hm⟩
        have X67 := Below.kl X59 E65 (allS g42 all0) (Nat.le_refl _)
        have hR68 := hRg0; clear hRg0
        refine wp_seq_k fun K69 hK69 => ?_
        refine wp_region_lit ?_
        refine q_is rfl rfl (does_icmp (p := (m : Int)) (q := (((pairsTo L_ctr.length L_ctr.length).length) : Int)) (.inr (.inr (.inl rfl))) (ev rfl) (ev rfl)) (by dsimp only [List.set]; try rfl) ?_
        refine wpList_nil (hK69 _ _ ?_)
        refine wp_seq_k fun K70 hK70 => ?_
        refine wp_cond_split (t := icmp .lss (m : Int) (((pairsTo L_ctr.length L_ctr.length).length) : Int)) (ev rfl) (fun c71 => ?_) (fun c71 => ?_)
        · have c71' := c71
          (try simp only [hβ1] at c71')
          (try simp only [icmp, Bool.and_eq_true, Bool.or_eq_true, Bool.and_eq_false_iff, Bool.or_eq_false_iff, Bool.not_eq_true', Bool.not_eq_false', decide_eq_true_eq, decide_eq_false_iff_not, beq_iff_eq, bne_iff_ne, beq_eq_false_iff_ne, bne_eq_false_iff_eq] at c71')
          refine wp_skip (hK70 _ _ ?_)
          refine wp_seq_k fun K72 hK72 => ?_
          refine wp_block ?_
          refine wp_seq_k fun K73 hK73 => ?_
          refine wp_region_lit ?_
          obtain ⟨el1, hel1⟩ : ∃ e, (pairsTo L_ctr.length L_ctr.length)[m]? = some e := ⟨_, List.getElem?_eq_getElem (by omega)⟩
          refine seqd rfl rfl (does_indexSl (R := RP) (i := (m : Int)) (xs := (pairsTo L_ctr.length L_ctr.length)) (e := el1) Try.underlying89 Try.sizeOf91 (ev rfl) (ev rfl) (hh57 _ ((Same.refl _ _).kl E65 (allS (.inl n60) all0))) (by omega) hel1) ?_; rintro _ w64 ⟨b74, o75, _, rfl, hc77, rfl, rfl⟩
          show wpList _ _ _ _ (fr [_, _, _, _, _, _, _, _, _, _, _, _, _, _, _, _, _, _, _, _, _, _, _, _, _, _, _, _, _, _, _, _, _, _, _, _, _, _, _, _, _, _, _, _, _, _, _, _, _, _, _, _, _, _, _, _, _, _, _, _, _, _, _, _, _, _, _, _, _, _, _, _, _, _, _, _, _, _, _, _, _, _, _, _, _, _, _, _, _, _, _, _, _, _, _, _, _, _, _, _, _]) _
          refine q_is rfl rfl (does_loadAgg (cs := [(Iv el1.1), (Iv el1.2)]) (ev rfl) Try.isAgg91 Try.sizeOf91 hc77 rfl) (by dsimp only [List.set]; try rfl) ?_
          refine seqd rfl rfl (does_alloc z91) ?_; rintro _ w82 ⟨b78, rfl, hb79, hB80, E81⟩
          have n83 : gr36 < b78 := Nat.lt_of_lt_of_le (RowG.lt hR68) hb79
          have n84 : b74 < b78 := Nat.lt_of_lt_of_le (cell_lt (Cells.at hc77 0 rfl)) hb79
          have g85 : w.heap.size ≤ b78 := Nat.le_trans (Below.size X67) hb79
          change Blk _ _ [(Iv 0), (Iv 0)] at hB80
          have X86 := Ext.gr X67 E81
          show wpList _ _ _ _ (fr [_, _, _, _, _, _, _, _, _, _, _, _, _, _, _, _, _, _, _, _, _, _, _, _, _, _, _, _, _, _, _, _, _, _, _, _, _, _, _, _, _, _, _, _, _, _, _, _, _, _, _, _, _, _, _, _, _, _, _, _, _, _, _, _, _, _, _, _, _, _, _, _, _, _, _, _, _, _, _, _, _, _, _, _, _, _, _, _, _, _, _, _, _, _, _, _, _, _, _, _, _]) _
          refine seqn rfl rfl (does_store (n := 2) (cs := [(Iv 0), (Iv 0)]) (u := (.agg #[(Iv el1.1), (Iv el1.2)])) (ev rfl) (ev rfl) Try.sizeOf91 rfl hB80 (Nat.le_of_ble_eq_true rfl) rfl) ?_; rintro _ w89 ⟨rfl, W87, hB88⟩
          change Blk _ _ [(Iv el1.1), (Iv el1.2)] at hB88
          have X90 := Below.wr X86 W87 g85
          refine wpList_nil (hK73 _ _ ?_)
          refine wp_seq_k fun K91 hK91 => ?_
          refine wp_region_lit ?_
          refine q_is rfl rfl (does_move (u := (.slice (some ⟨gr36, 0, none⟩) L_ctr.length q32)) (ev rfl)) (by dsimp only [List.set]; try rfl) ?_
          refine q_is rfl rfl (does_move (u := (.slice p_rad L_rad.length q_rad)) (ev rfl)) (by dsimp only [List.set]; try rfl) ?_
          refine q_is rfl rfl (does_indexAt_run (r := (Pt b78 0)) (ev rfl) (ev rfl) (fun w => ia91_0 _ _ w)) (by dsimp only [List.set]; try rfl) ?_
          refine q_is rfl rfl (does_load (u := (Iv el1.1)) (ev rfl) Try.isAgg3 (Cells.at (Blk.cells hB88) 0 rfl)) (by dsimp only [List.set]; try rfl) ?_
          refine q_is rfl rfl (does_indexAt_run (r := (Pt b78 1)) (ev rfl) (ev rfl) (fun w => ia91_1 _ _ w)) (by dsimp only [List.set]; try rfl) ?_
          refine q_is rfl rfl (does_load (u := (Iv el1.2)) (ev rfl) Try.isAgg3 (Cells.at (Blk.cells hB88) 1 rfl)) (by dsimp only [List.set]; try rfl) ?_
          refine seqd rfl rfl (does_call (args := #[(.slice (some ⟨gr36, 0, none⟩) L_ctr.length q32), (.slice p_rad L_rad.length q_rad), (Iv el1.1), (Iv el1.2)]) cal61 (evs rfl) (c_impl_overlap (.slice (some ⟨gr36, 0, none⟩) L_ctr.length q32) (((pairsTo L_ctr.length L_ctr.length).take m).foldl (partB L_rad) (prN L_rad L_ctr k)) (.slice p_rad L_rad.length q_rad) L_rad el1.1 el1.2 _ (RowG.sl (RowG.kl (RowG.ext hR68 RV3.flat E81) RV3.flat (KpL.of_wr W87) (ninS (Nat.ne_of_lt n83) nin0)) RV3.flat (by first | assumption | omega | (simp only [foldP_len, prN_len, List.length_set, List.length_replicate]; omega) | (simp only [foldP_len, prN_len, List.length_set, List.length_replicate]; done)) hcap40 (by omega) (by decide)) (Sl.ext hv_rad RF.mono X90) (by have hpm := pairsTo_mem (Nat.le_refl _) (List.mem_of_getElem? hel1); simp only [foldP_len, prN_len]; omega) (by have hpm := pairsTo_mem (Nat.le_refl _) (List.mem_of_getElem? hel1); simp only [foldP_len, prN_len]; omega) (by simp only [foldP_len, prN_len]; omega))) ?_; rintro _ w93 ⟨E92, ⟨r94, rfl, h95⟩⟩
          have X96 := Ext.gr X90 E92
          show wpList _ _ _ _ (fr [_, _, _, _, _, _, _, _, _, _, _, _, _, _, _, _, _, _, _, _, _, _, _, _, _, _, _, _, _, _, _, _, _, _, _, _, _, _, _, _, _, _, _, _, _, _, _, _, _, _, _, _, _, _, _, _, _, _, _, _, _, _, _, _, _, _, _, _, _, _, _, _, _, _, _, _, _, _, _, _, _, _, _, _, _, _, _, _, _, _, _, _, _, _, _, _, _, _, _, _, _]) _
          refine q_is rfl rfl (does_assign (u := (Fl r94)) (ev rfl)) (by dsimp only [List.set]; try rfl) ?_
          refine wpList_nil (hK91 _ _ ?_)
          refine wp_seq_k fun K97 hK97 => ?_
          refine wp_seq_k fun K98 hK98 => ?_
          refine wp_region_lit ?_
          refine q_is rfl rfl (does_move (u := (Fl r94)) (ev rfl)) (by dsimp only [List.set]; try rfl) ?_
          refine q_is rfl rfl (does_fcmp (.inr (.inr (.inr (.inr (.inl rfl))))) (ev rfl) (ev rfl)) (by dsimp only [List.set]; try rfl) ?_
          refine q_is rfl rfl (does_not (ev rfl)) (by dsimp only [List.set]; try rfl) ?_
          refine wpList_nil (hK98 _ _ ?_)
          refine wp_cond_split (t := !(fcmp .gtr (ford .f32 (cf .f32 r94) (cf .f32 0)))) (ev rfl) (fun c99 => ?_) (fun c99 => ?_)
          · rw [Bool.not_eq_true'] at c99
            have c99' := c99
            (try simp only [hβ1] at c99')
            (try simp only [icmp, Bool.and_eq_true, Bool.or_eq_true, Bool.and_eq_false_iff, Bool.or_eq_false_iff, Bool.not_eq_true', Bool.not_eq_false', decide_eq_true_eq, decide_eq_false_iff_not, beq_iff_eq, bne_iff_ne, beq_eq_false_iff_ne, bne_eq_false_iff_eq] at c99')
            simp only [hβ1, hel1, h95] at c99
            have hxg := c99
            refine wp_exit ?_
            refine hK72 _ _ ?_
            refine wp_region_lit ?_
            refine q_is rfl rfl (does_iarith (p := (m : Int)) (q := 1) (r := (m : Int) + 1) (ev rfl) (ev rfl) (.inl ⟨rfl, (in_i64 (by omega) (by omega)).symm⟩)) (by dsimp only [List.set]; try rfl) ?_
            refine q_is rfl rfl (does_move (u := (Iv ((m : Int) + 1))) (ev rfl)) (by dsimp only [List.set]; try rfl) ?_
            refine wpList_nil ?_
            have hR100 := RowG.cast (ys := ((fun (m : Nat) => ((pairsTo L_ctr.length L_ctr.length).take m).foldl (partB L_rad) (prN L_rad L_ctr k)) (m + 1))) (RowG.ext (RowG.kl (RowG.ext hR68 RV3.flat E81) RV3.flat (KpL.of_wr W87) (ninS (Nat.ne_of_lt n83) nin0)) RV3.flat E92) (by (try dsimp only); rw [fold_take hel1]; first | exact (partB_f hxg).symm | exact partB_t hxg hel3 hel2 (by first | (rw [wayB_n hzv]; simp only [halfF, hβ1, hel1, h95]; done) | (rw [wayB_z hzv]; simp only [halfF, hβ1, hel1, h95]; done)))
            refine ⟨m + 1, ⟨fun t => (([(.slice p_ctr L_ctr.length q_ctr), (.slice p_rad L_rad.length q_rad), (Iv rnd), Ud, Ud, Ud, (.slice none 0 0), (Bo false), (.slice (some ⟨gr36, 0, none⟩) L_ctr.length q32), Ud, (Pt b78 0), (Fl r94), (u63 12), (u63 13), v4, v5, v6, v7, v8, v9, v10, v11, (Bo β1), (.slice p_ctr L_ctr.length q_ctr), (.slice (some ⟨gr36, 0, none⟩) L_ctr.length q32), (Iv rnd), (Iv (k : Int)), (Bo (icmp .lss (k : Int) rnd)), (.slice (some ⟨gr36, 0, none⟩) L_ctr.length q32), (Iv (L_ctr.length : Int)), (.slice p61 ((pairsTo L_ctr.length L_ctr.length).length) q62), (Iv (((pairsTo L_ctr.length L_ctr.length).length) : Int)), (Iv ((m : Int) + 1)), (Bo (icmp .lss (m : Int) (((pairsTo L_ctr.length L_ctr.length).length) : Int))), (Pt b74 o75), (.agg #[(Iv el1.1), (Iv el1.2)]), (.slice (some ⟨gr36, 0, none⟩) L_ctr.length q32), (.slice p_rad L_rad.length q_rad), (Pt b78 0), (Iv el1.1), (Pt b78 1), (Iv el1.2), (Fl r94), (Fl r94), (Bo (fcmp .gtr (ford .f32 (cf .f32 r94) (cf .f32 0)))), (Bo (!(fcmp .gtr (ford .f32 (cf .f32 r94) (cf .f32 0))))), (u63 46), (u63 47), (u63 48), (u63 49), (u63 50), (u63 51), (u63 52), (u63 53), (u63 54), (u63 55), (u63 56), (u63 57), (u63 58), (u63 59), (u63 60), (u63 61), (u63 62), (u63 63), (u63 64), (u63 65), (u63 66), (u63 67), (u63 68), (u63 69), (u63 70), (u63 71), (u63 72), (u63 73), (u63 74), (u63 75), (u63 76), (u63 77), (u63 78), (u63 79), (u63 80), (u63 81), (u63 82), (u63 83), (u63 84), (u63 85), (u63 86), (u63 87), (u63 88), (u63 89), (u63 90), (u63 91), (u63 92), (u63 93), (u63 94), (u63 95), (u63 96), (u63 97), (Iv ((m : Int) + 1)), (u44 99), Ud] : List Value)[t]?).getD undef, ?_, (KpL.ext (KpL.more (KpL.ext E65 E81) (KpL.of_wr W87) (allS (.inr (Nat.le_trans E65.size hb79)) all0)) E92), hR100, ?_⟩, ?_⟩
            · first | rfl | (simp only [Nat.cast_add, Nat.cast_one, Int.natCast_add, Int.natCast_one]; rfl)
            · (try dsimp only); omega
            · (try dsimp only); omega
          rw [Bool.not_eq_false'] at c99
          have c99' := c99
          (try simp only [hβ1] at c99')
          (try simp only [icmp, Bool.and_eq_true, Bool.or_eq_true, Bool.and_eq_false_iff, Bool.or_eq_false_iff, Bool.not_eq_true', Bool.not_eq_false', decide_eq_true_eq, decide_eq_false_iff_not, beq_iff_eq, bne_iff_ne, beq_eq_false_iff_ne, bne_eq_false_iff_eq] at c99')
          simp only [hβ1, hel1, h95] at c99
          have hxg := c99
          have hpm := pairsTo_mem (Nat.le_refl _) (List.mem_of_getElem? hel1)
          refine wp_skip (hK97 _ _ ?_)
          refine wp_seq_k fun K101 hK101 => ?_
          obtain ⟨el2, hel2⟩ : ∃ e, (((pairsTo L_ctr.length L_ctr.length).take m).foldl (partB L_rad) (prN L_rad L_ctr k))[el1.2.toNat]? = some e := ⟨_, List.getElem?_eq_getElem (by first | assumption | omega | (simp only [foldP_len, prN_len, List.length_set, List.length_replicate]; omega) | (simp only [foldP_len, prN_len, List.length_set, List.length_replicate]; done))⟩
          obtain ⟨el3, hel3⟩ : ∃ e, (((pairsTo L_ctr.length L_ctr.length).take m).foldl (partB L_rad) (prN L_rad L_ctr k))[el1.1.toNat]? = some e := ⟨_, List.getElem?_eq_getElem (by first | assumption | omega | (simp only [foldP_len, prN_len, List.length_set, List.length_replicate]; omega) | (simp only [foldP_len, prN_len, List.length_set, List.length_replicate]; done))⟩
          refine region_draw (
            [Fact.pure [] (fun v => v = (.slice (some ⟨gr36, 0, none⟩) L_ctr.length q32)),
    Fact.pure [] (fun v => v = (Pt b78 1)),
    Fact.pure [47] (fun v => v = (Iv el1.2)),
    Fact.pure [46, 48] (fun v => v = (Pt gr36 (el1.2.toNat * 3))),
    Fact.pure [49] (fun v => ∃ cs_1 : List Value, v = (.agg cs_1.toArray) ∧ RV3 w el2 cs_1),
    Fact.pure [] (fun v => v = (.slice (some ⟨gr36, 0, none⟩) L_ctr.length q32)),
    Fact.pure [] (fun v => v = (Pt b78 0)),
    Fact.pure [52] (fun v => v = (Iv el1.1)),
    Fact.pure [51, 53] (fun v => v = (Pt gr36 (el1.1.toNat * 3))),
    Fact.pure [54] (fun v => ∃ cs_1 : List Value, v = (.agg cs_1.toArray) ∧ RV3 w el3 cs_1),
    Fact.pure [50, 55] (fun v => ∃ cs_1 : List Value, v = (.agg cs_1.toArray) ∧ RV3 w (vsub el2 el3) cs_1),
    Fact.pure [56] (fun v => ∃ cs_1 : List Value, v = (.agg cs_1.toArray) ∧ RV3 w (unitF (vsub el2 el3)) cs_1),
    Fact.mem [] (fun v w' => ∃ b : Nat, v = .pointer (some ⟨b, 0, none⟩) ∧ w93.heap.size ≤ b ∧ Blk w' b [(Fl 0), (Fl 0), (Fl 0)]) (by rintro v w1 w2 hx ⟨b, rfl, hb, hB⟩; exact ⟨b, rfl, hb, (hB.ext hx)⟩)]) mixed (by kernel_rfl) (by intro _ _ d _ _ h; cases d <;> exact h) ?_
          obtain ⟨w102, hw104⟩ : ∃ w', w' = World.drew w93 := ⟨_, rfl⟩; rw [← hw104]; have E103 : Ext w93 w102 := by rw [hw104]; exact Ext.draw _
          clear hw104
          have X105 := Ext.gr X96 E103
          refine RW_d _ rfl (fun v => by dsimp only [List.set]; try rfl) (fun u hu hF => ?_) (fun v106 => ?_)
          · clear hF
            refine doesG_un rfl ?_
            refine (does_move (u := (.slice (some ⟨gr36, 0, none⟩) L_ctr.length q32)) (ev rfl)).mono ?_; rintro _ _ ⟨rfl, rfl⟩
            exact ⟨rfl, Ext.refl _⟩
          refine RW_d _ rfl (fun v => by dsimp only [List.set]; try rfl) (fun u hu hF => ?_) (fun v107 => ?_)
          · clear hF
            refine doesG_un rfl ?_
            refine (does_indexAt_run (r := (Pt b78 1)) (ev rfl) (ev rfl) (fun w => ia91_1 _ _ w)).mono ?_; rintro _ _ ⟨rfl, rfl⟩
            exact ⟨rfl, Ext.refl _⟩
          refine RW_d _ rfl (fun v => by dsimp only [List.set]; try rfl) (fun u hu hF => ?_) (fun v108 => ?_)
          · have h47_ : v107 = (Pt b78 1) := hF.1
            clear hF
            refine doesG_un rfl ?_
            obtain rfl := h47_
            refine (does_load (u := (Iv el1.2)) (ev rfl) Try.isAgg3 (Cells.at (Blk.cells (((hB88.ext E92).ext E103).ext hu)) 1 rfl)).mono ?_; rintro _ _ ⟨rfl, rfl⟩
            exact ⟨rfl, Ext.refl _⟩
          refine RW_d _ rfl (fun v => by dsimp only [List.set]; try rfl) (fun u hu hF => ?_) (fun v109 => ?_)
          · have h46_ : v106 = (.slice (some ⟨gr36, 0, none⟩) L_ctr.length q32) := hF.1
            have h48_ : v108 = (Iv el1.2) := hF.2.1
            clear hF
            refine doesG_un rfl ?_
            obtain rfl := h46_
            obtain rfl := h48_
            refine (does_indexOwn (b := gr36) (n := L_ctr.length) (i := el1.2) Try.underlying47 Try.sizeOf32 (ev rfl) (ev rfl) (by omega) (by omega)).mono ?_; rintro _ _ ⟨rfl, rfl⟩
            exact ⟨rfl, Ext.refl _⟩
          refine RW_d _ rfl (fun v => by dsimp only [List.set]; try rfl) (fun u hu hF => ?_) (fun v110 => ?_)
          · have h49_ : v109 = (Pt gr36 (el1.2.toNat * 3)) := hF.1
            clear hF
            refine doesG_un rfl ?_
            obtain rfl := h49_
            refine (does_loadRowG (R := RV3) (k := 3) (xs := (((pairsTo L_ctr.length L_ctr.length).take m).foldl (partB L_rad) (prN L_rad L_ctr k))) (i := el1.2.toNat) (e := el2) (ev rfl) Try.isAgg32 Try.sizeOf32 (RowG.ext (RowG.ext (RowG.ext (RowG.kl (RowG.ext hR68 RV3.flat E81) RV3.flat (KpL.of_wr W87) (ninS (Nat.ne_of_lt n83) nin0)) RV3.flat E92) RV3.flat E103) RV3.flat hu) rfl hel2).mono ?_; rintro v u' ⟨hx, ⟨csn1, hv, k0⟩⟩
            exact ⟨⟨csn1, hv, k0⟩, hx⟩
          refine RW_d _ rfl (fun v => by dsimp only [List.set]; try rfl) (fun u hu hF => ?_) (fun v111 => ?_)
          · clear hF
            refine doesG_un rfl ?_
            refine (does_move (u := (.slice (some ⟨gr36, 0, none⟩) L_ctr.length q32)) (ev rfl)).mono ?_; rintro _ _ ⟨rfl, rfl⟩
            exact ⟨rfl, Ext.refl _⟩
          refine RW_d _ rfl (fun v => by dsimp only [List.set]; try rfl) (fun u hu hF => ?_) (fun v112 => ?_)
          · clear hF
            refine doesG_un rfl ?_
            refine (does_indexAt_run (r := (Pt b78 0)) (ev rfl) (ev rfl) (fun w => ia91_0 _ _ w)).mono ?_; rintro _ _ ⟨rfl, rfl⟩
            exact ⟨rfl, Ext.refl _⟩
          refine RW_d _ rfl (fun v => by dsimp only [List.set]; try rfl) (fun u hu hF => ?_) (fun v113 => ?_)
          · have h52_ : v112 = (Pt b78 0) := hF.1
            clear hF
            refine doesG_un rfl ?_
            obtain rfl := h52_
            refine (does_load (u := (Iv el1.1)) (ev rfl) Try.isAgg3 (Cells.at (Blk.cells (((hB88.ext E92).ext E103).ext hu)) 0 rfl)).mono ?_; rintro _ _ ⟨rfl, rfl⟩
            exact ⟨rfl, Ext.refl _⟩
          refine RW_d _ rfl (fun v => by dsimp only [List.set]; try rfl) (fun u hu hF => ?_) (fun v114 => ?_)
          · have h51_ : v111 = (.slice (some ⟨gr36, 0, none⟩) L_ctr.length q32) := hF.1
            have h53_ : v113 = (Iv el1.1) := hF.2.1
            clear hF
            refine doesG_un rfl ?_
            obtain rfl := h51_
            obtain rfl := h53_
            refine (does_indexOwn (b := gr36) (n := L_ctr.length) (i := el1.1) Try.underlying47 Try.sizeOf32 (ev rfl) (ev rfl) (by omega) (by omega)).mono ?_; rintro _ _ ⟨rfl, rfl⟩
            exact ⟨rfl, Ext.refl _⟩
          refine RW_d _ rfl (fun v => by dsimp only [List.set]; try rfl) (fun u hu hF => ?_) (fun v115 => ?_)
          · have h54_ : v114 = (Pt gr36 (el1.1.toNat * 3)) := hF.1
            clear hF
            refine doesG_un rfl ?_
            obtain rfl := h54_
            refine (does_loadRowG (R := RV3) (k := 3) (xs := (((pairsTo L_ctr.length L_ctr.length).take m).foldl (partB L_rad) (prN L_rad L_ctr k))) (i := el1.1.toNat) (e := el3) (ev rfl) Try.isAgg32 Try.sizeOf32 (RowG.ext (RowG.ext (RowG.ext (RowG.kl (RowG.ext hR68 RV3.flat E81) RV3.flat (KpL.of_wr W87) (ninS (Nat.ne_of_lt n83) nin0)) RV3.flat E92) RV3.flat E103) RV3.flat hu) rfl hel3).mono ?_; rintro v u' ⟨hx, ⟨csn1, hv, k0⟩⟩
            exact ⟨⟨csn1, hv, k0⟩, hx⟩
          refine RW_d _ rfl (fun v => by dsimp only [List.set]; try rfl) (fun u hu hF => ?_) (fun v116 => ?_)
          · have h50_ : ∃ cs_1 : List Value, v110 = (.agg cs_1.toArray) ∧ RV3 w el2 cs_1 := hF.1
            have h55_ : ∃ cs_1 : List Value, v115 = (.agg cs_1.toArray) ∧ RV3 w el3 cs_1 := hF.2.1
            clear hF
            refine doesG_un rfl ?_
            obtain ⟨_, rfl, ⟨r50_1, r50_3, r50_5, rfl, h50_2, h50_4, h50_6⟩⟩ := h50_
            obtain ⟨_, rfl, ⟨r55_1, r55_3, r55_5, rfl, h55_2, h55_4, h55_6⟩⟩ := h55_
            refine (does_call (args := #[(.agg #[(Fl r50_1), (Fl r50_3), (Fl r50_5)]), (.agg #[(Fl r55_1), (Fl r55_3), (Fl r55_5)])]) cal63 (evs rfl) (c_impl_LessVectors [(Fl r50_1), (Fl r50_3), (Fl r50_5)] el2 [(Fl r55_1), (Fl r55_3), (Fl r55_5)] el3 _ ⟨r50_1, r50_3, r50_5, rfl, (by assumption), (by assumption), (by assumption)⟩ ⟨r55_1, r55_3, r55_5, rfl, (by assumption), (by assumption), (by assumption)⟩)).mono ?_; rintro v u' ⟨hx, ⟨csn1, hv, k0⟩⟩
            exact ⟨⟨csn1, hv.trans (by simp only [h50_2, h50_4, h50_6, h55_2, h55_4, h55_6]), (by first | exact k0 | simpa only [h50_2, h50_4, h50_6, h55_2, h55_4, h55_6] using RV3.any (w := w) k0)⟩, hx⟩
          refine RW_d _ rfl (fun v => by dsimp only [List.set]; try rfl) (fun u hu hF => ?_) (fun v117 => ?_)
          · have h56_ : ∃ cs_1 : List Value, v116 = (.agg cs_1.toArray) ∧ RV3 w (vsub el2 el3) cs_1 := hF.1
            clear hF
            refine doesG_un rfl ?_
            obtain ⟨_, rfl, ⟨r56_1, r56_3, r56_5, rfl, h56_2, h56_4, h56_6⟩⟩ := h56_
            refine (does_call (args := #[(.agg #[(Fl r56_1), (Fl r56_3), (Fl r56_5)])]) cal62 (evs rfl) (c_impl_UnitOf [(Fl r56_1), (Fl r56_3), (Fl r56_5)] (vsub el2 el3) _ ⟨r56_1, r56_3, r56_5, rfl, (by assumption), (by assumption), (by assumption)⟩)).mono ?_; rintro v u' ⟨hx, ⟨csn1, hv, k0⟩⟩
            exact ⟨⟨csn1, hv.trans (by simp only [h56_2, h56_4, h56_6]), (by first | exact k0 | simpa only [h56_2, h56_4, h56_6] using RV3.any (w := w) k0)⟩, hx⟩
          refine RW_d _ rfl (fun v => by dsimp only [List.set]; try rfl) (fun u hu hF => ?_) (fun v118 => ?_)
          · clear hF
            refine doesG_un rfl ?_
            refine (does_alloc z32).mono ?_; rintro _ _ ⟨b, rfl, hb, hB, hx⟩
            exact ⟨⟨b, rfl, Nat.le_trans (Nat.le_trans (Below.size E103) (Below.size hu)) hb, hB⟩, hx⟩
          refine RW_fin ?_; intro w119 E120 hP121
          obtain ⟨⟨⟨⟨⟨⟨⟨⟨⟨⟨⟨⟨⟨-, -⟩, -⟩, -⟩, -⟩, -⟩, -⟩, -⟩, -⟩, -⟩, -⟩, -⟩, q122⟩, q123⟩ := hP121
          have X124 := Ext.gr X105 E120
          have q122 : ∃ cs_1 : List Value, v117 = (.agg cs_1.toArray) ∧ RV3 w (unitF (vsub el2 el3)) cs_1 := q122
          obtain ⟨_, rfl, ⟨r125, r127, r129, rfl, h126, h128, h130⟩⟩ := q122
          have q123 : ∃ b : Nat, v118 = .pointer (some ⟨b, 0, none⟩) ∧ w93.heap.size ≤ b ∧ Blk w119 b [(Fl 0), (Fl 0), (Fl 0)] := q123
          obtain ⟨b131, rfl, hb132, hB133⟩ := q123
          have n134 : gr36 < b131 := Nat.lt_of_lt_of_le (RowG.lt (RowG.ext (RowG.kl (RowG.ext hR68 RV3.flat E81) RV3.flat (KpL.of_wr W87) (ninS (Nat.ne_of_lt n83) nin0)) RV3.flat E92)) hb132
          have n135 : b74 < b131 := Nat.lt_of_lt_of_le (cell_lt (Cells.at (((hc77.ext E81).wr W87 (Nat.ne_of_lt n84)).ext E92) 0 rfl)) hb132
          have n136 : b78 < b131 := Nat.lt_of_lt_of_le (Blk.lt (hB88.ext E92)) hb132
          have g137 : w.heap.size ≤ b131 := Nat.le_trans (Below.size X96) hb132
          show wpList _ _ _ _ (fr [_, _, _, _, _, _, _, _, _, _, _, _, _, _, _, _, _, _, _, _, _, _, _, _, _, _, _, _, _, _, _, _, _, _, _, _, _, _, _, _, _, _, _, _, _, _, _, _, _, _, _, _, _, _, _, _, _, _, _, _, _, _, _, _, _, _, _, _, _, _, _, _, _, _, _, _, _, _, _, _, _, _, _, _, _, _, _, _, _, _, _, _, _, _, _, _, _, _, _, _, _]) _
          refine seqn rfl rfl (does_store (n := 3) (cs := [(Fl 0), (Fl 0), (Fl 0)]) (u := (.agg #[(Fl r125), (Fl r127), (Fl r129)])) (ev rfl) (ev rfl) Try.sizeOf32 rfl hB133 (Nat.le_of_ble_eq_true rfl) rfl) ?_; rintro _ w140 ⟨rfl, W138, hB139⟩
          change Blk _ _ [(Fl r125), (Fl r127), (Fl r129)] at hB139
          have X141 := Below.wr X124 W138 g137
          refine wpList_nil (hK101 _ _ ?_)
          refine wp_seq_k fun K142 hK142 => ?_
          refine wp_seq_k fun K143 hK143 => ?_
          obtain ⟨β2, hβ2⟩ : ∃ b : Bool, b = (fcmp .eql (ford .f32 (cf .f32 r125) (cf .f32 0))) := ⟨_, rfl⟩
          obtain ⟨β3, hβ3⟩ : ∃ b : Bool, b = (fcmp .eql (ford .f32 (cf .f32 r127) (cf .f32 0))) := ⟨_, rfl⟩
          obtain ⟨β4, hβ4⟩ : ∃ b : Bool, b = (fcmp .eql (ford .f32 (cf .f32 r129) (cf .f32 0))) := ⟨_, rfl⟩
          refine region_text (
            [Fact.pure [] (fun v => v = (Pt b131 0)),
    Fact.pure [58] (fun v => v = (Fl r125)),
    Fact.pure [59] (fun v => v = (Bo β2)),
    Fact.pure [60] (fun v => v = (Bo β2)),
    Fact.pure [61] (fun v => β2 = true → v = (Pt b131 1)),
    Fact.pure [62, 61] (fun v => β2 = true → v = (Fl r127)),
    Fact.pure [63, 61] (fun v => β2 = true → v = (Bo β3)),
    Fact.pure [61, 64] (fun v => v = (Bo (β2 && β3))),
    Fact.pure [65] (fun v => v = (Bo (β2 && β3))),
    Fact.pure [66] (fun v => (β2 && β3) = true → v = (Pt b131 2)),
    Fact.pure [67, 66] (fun v => (β2 && β3) = true → v = (Fl r129)),
    Fact.pure [68, 66] (fun v => (β2 && β3) = true → v = (Bo β4)),
    Fact.pure [66, 69] (fun v => v = (Bo ((β2 && β3) && β4)))]) (by simp [Fact.pure, Fact.mem]) ?_
          refine RW_d _ rfl (fun v => by dsimp only [List.set]; try rfl) (fun u hu hF => ?_) (fun v144 => ?_)
          · clear hF
            refine doesG_un rfl ?_
            refine (does_fieldAddr (ev rfl) fa32_0).mono ?_; rintro _ _ ⟨rfl, rfl⟩
            exact ⟨rfl, Ext.refl _⟩
          refine RW_d _ rfl (fun v => by dsimp only [List.set]; try rfl) (fun u hu hF => ?_) (fun v145 => ?_)
          · have h58_ : v144 = (Pt b131 0) := hF.1
            clear hF
            refine doesG_un rfl ?_
            obtain rfl := h58_
            refine (does_load (u := (Fl r125)) (ev rfl) Try.isAgg22 (Cells.at (Blk.cells (hB139.ext hu)) 0 rfl)).mono ?_; rintro _ _ ⟨rfl, rfl⟩
            exact ⟨rfl, Ext.refl _⟩
          refine RW_d _ rfl (fun v => by dsimp only [List.set]; try rfl) (fun u hu hF => ?_) (fun v146 => ?_)
          · have h59_ : v145 = (Fl r125) := hF.1
            clear hF
            refine doesG_un rfl ?_
            obtain rfl := h59_
            refine (does_fcmp (.inl rfl) (ev rfl) (ev rfl)).mono ?_; rintro _ _ ⟨rfl, rfl⟩
            exact ⟨(by first | rfl | (show _ = _; simp only [hβ2]; done) | (show _ = _; simp only [hβ2]; rfl)), Ext.refl _⟩
          refine RW_d _ rfl (fun v => by dsimp only [List.set]; try rfl) (fun u hu hF => ?_) (fun v147 => ?_)
          · have h60_ : v146 = (Bo β2) := hF.1
            clear hF
            refine doesG_un rfl ?_
            obtain rfl := h60_
            refine (does_move (u := (Bo β2)) (ev rfl)).mono ?_; rintro _ _ ⟨rfl, rfl⟩
            exact ⟨rfl, Ext.refl _⟩
          refine RW_d _ rfl (fun v => by dsimp only [List.set]; try rfl) (fun u hu hF => ?_) (fun v148 => ?_)
          · have h61_ : v147 = (Bo β2) := hF.1
            clear hF
            obtain rfl := h61_
            refine doesG_g (b := β2) rfl (yld rfl rfl) (fun hg1 => ?_) (fun hc => ⟨fun hg1 => absurd hg1 hc, Ext.refl _⟩)
            refine (does_fieldAddr (ev rfl) fa32_1).mono ?_; rintro _ _ ⟨rfl, rfl⟩
            exact ⟨fun _ => rfl, Ext.refl _⟩
          refine RW_d _ rfl (fun v => by dsimp only [List.set]; try rfl) (fun u hu hF => ?_) (fun v149 => ?_)
          · have h62_ : β2 = true → v148 = (Pt b131 1) := hF.1
            have h61_ : v147 = (Bo β2) := hF.2.1
            clear hF
            obtain rfl := h61_
            refine doesG_g (b := β2) rfl (yld rfl rfl) (fun hg1 => ?_) (fun hc => ⟨fun hg1 => absurd hg1 hc, Ext.refl _⟩)
            obtain rfl := h62_ hg1
            refine (does_load (u := (Fl r127)) (ev rfl) Try.isAgg22 (Cells.at (Blk.cells (hB139.ext hu)) 1 rfl)).mono ?_; rintro _ _ ⟨rfl, rfl⟩
            exact ⟨fun _ => rfl, Ext.refl _⟩
          refine RW_d _ rfl (fun v => by dsimp only [List.set]; try rfl) (fun u hu hF => ?_) (fun v150 => ?_)
          · have h63_ : β2 = true → v149 = (Fl r127) := hF.1
            have h61_ : v147 = (Bo β2) := hF.2.1
            clear hF
            obtain rfl := h61_
            refine doesG_g (b := β2) rfl (yld rfl rfl) (fun hg1 => ?_) (fun hc => ⟨fun hg1 => absurd hg1 hc, Ext.refl _⟩)
            obtain rfl := h63_ hg1
            refine (does_fcmp (.inl rfl) (ev rfl) (ev rfl)).mono ?_; rintro _ _ ⟨rfl, rfl⟩
            exact ⟨fun _ => (by first | rfl | (show _ = _; simp only [hβ3]; done) | (show _ = _; simp only [hβ3]; rfl)), Ext.refl _⟩
          refine RW_d _ rfl (fun v => by dsimp only [List.set]; try rfl) (fun u hu hF => ?_) (fun v151 => ?_)
          · have h61_ : v147 = (Bo β2) := hF.1
            have h64_ : β2 = true → v150 = (Bo β3) := hF.2.1
            clear hF
            refine doesG_un rfl ?_
            skip
            obtain rfl := h61_
            refine (does_pick (b := β2) (u := v150) (v := (Bo false)) (ev rfl) (ev rfl) (ev rfl)).mono ?_; rintro _ _ ⟨rfl, rfl⟩; refine ⟨?_, Ext.refl _⟩; skip
            cases hbb : β2
            all_goals first | (show _ = _; simp only [↓reduceIte, Bool.true_and, Bool.false_and, Bool.true_or, Bool.false_or, Bool.false_eq_true]; done) | (have e_ := h64_ hbb; subst e_; show _ = _; simp only [↓reduceIte, Bool.true_and, Bool.false_and, Bool.true_or, Bool.false_or, Bool.false_eq_true]; done) | rfl | (have e_ := h64_ hbb; subst e_; rfl) | (simp [hbb] at h64_ ⊢; first | done | rfl | (subst h64_; rfl) | simp_all) | (simp [hbb] at h64_ ⊢; done)
          refine RW_d _ rfl (fun v => by dsimp only [List.set]; try rfl) (fun u hu hF => ?_) (fun v152 => ?_)
          · have h65_ : v151 = (Bo (β2 && β3)) := hF.1
            clear hF
            refine doesG_un rfl ?_
            obtain rfl := h65_
            refine (does_move (u := (Bo (β2 && β3))) (ev rfl)).mono ?_; rintro _ _ ⟨rfl, rfl⟩
            exact ⟨rfl, Ext.refl _⟩
          refine RW_d _ rfl (fun v => by dsimp only [List.set]; try rfl) (fun u hu hF => ?_) (fun v153 => ?_)
          · have h66_ : v152 = (Bo (β2 && β3)) := hF.1
            clear hF
            obtain rfl := h66_
            refine doesG_g (b := (β2 && β3)) rfl (yld rfl rfl) (fun hg1 => ?_) (fun hc => ⟨fun hg1 => absurd hg1 hc, Ext.refl _⟩)
            refine (does_fieldAddr (ev rfl) fa32_2).mono ?_; rintro _ _ ⟨rfl, rfl⟩
            exact ⟨fun _ => rfl, Ext.refl _⟩
          refine RW_d _ rfl (fun v => by dsimp only [List.set]; try rfl) (fun u hu hF => ?_) (fun v154 => ?_)
          · have h67_ : (β2 && β3) = true → v153 = (Pt b131 2) := hF.1
            have h66_ : v152 = (Bo (β2 && β3)) := hF.2.1
            clear hF
            obtain rfl := h66_
            refine doesG_g (b := (β2 && β3)) rfl (yld rfl rfl) (fun hg1 => ?_) (fun hc => ⟨fun hg1 => absurd hg1 hc, Ext.refl _⟩)
            obtain rfl := h67_ hg1
            refine (does_load (u := (Fl r129)) (ev rfl) Try.isAgg22 (Cells.at (Blk.cells (hB139.ext hu)) 2 rfl)).mono ?_; rintro _ _ ⟨rfl, rfl⟩
            exact ⟨fun _ => rfl, Ext.refl _⟩
          refine RW_d _ rfl (fun v => by dsimp only [List.set]; try rfl) (fun u hu hF => ?_) (fun v155 => ?_)
          · have h68_ : (β2 && β3) = true → v154 = (Fl r129) := hF.1
            have h66_ : v152 = (Bo (β2 && β3)) := hF.2.1
            clear hF
            obtain rfl := h66_
            refine doesG_g (b := (β2 && β3)) rfl (yld rfl rfl) (fun hg1 => ?_) (fun hc => ⟨fun hg1 => absurd hg1 hc, Ext.refl _⟩)
            obtain rfl := h68_ hg1
            refine (does_fcmp (.inl rfl) (ev rfl) (ev rfl)).mono ?_; rintro _ _ ⟨rfl, rfl⟩
            exact ⟨fun _ => (by first | rfl | (show _ = _; simp only [hβ4]; done) | (show _ = _; simp only [hβ4]; rfl)), Ext.refl _⟩
          refine RW_d _ rfl (fun v => by dsimp only [List.set]; try rfl) (fun u hu hF => ?_) (fun v156 => ?_)
          · have h66_ : v152 = (Bo (β2 && β3)) := hF.1
            have h69_ : (β2 && β3) = true → v155 = (Bo β4) := hF.2.1
            clear hF
            refine doesG_un rfl ?_
            skip
            obtain rfl := h66_
            refine (does_pick (b := (β2 && β3)) (u := v155) (v := (Bo false)) (ev rfl) (ev rfl) (ev rfl)).mono ?_; rintro _ _ ⟨rfl, rfl⟩; refine ⟨?_, Ext.refl _⟩; skip
            cases hbb : (β2 && β3)
            all_goals first | (show _ = _; simp only [↓reduceIte, Bool.true_and, Bool.false_and, Bool.true_or, Bool.false_or, Bool.false_eq_true]; done) | (have e_ := h69_ hbb; subst e_; show _ = _; simp only [↓reduceIte, Bool.true_and, Bool.false_and, Bool.true_or, Bool.false_or, Bool.false_eq_true]; done) | rfl | (have e_ := h69_ hbb; subst e_; rfl) | (simp [hbb] at h69_ ⊢; first | done | rfl | (subst h69_; rfl) | simp_all) | (simp [hbb] at h69_ ⊢; done)
          refine RW_fin ?_; intro w157 E158 hP159
          obtain ⟨⟨⟨⟨⟨⟨⟨⟨⟨⟨⟨⟨⟨-, -⟩, -⟩, -⟩, -⟩, -⟩, -⟩, -⟩, -⟩, -⟩, -⟩, -⟩, -⟩, q160⟩ := hP159
          have X161 := Ext.gr X141 E158
          have q160 : v156 = (Bo ((β2 && β3) && β4)) := q160
          obtain rfl := q160
          show wpList _ _ _ _ (fr [_, _, _, _, _, _, _, _, _, _, _, _, _, _, _, _, _, _, _, _, _, _, _, _, _, _, _, _, _, _, _, _, _, _, _, _, _, _, _, _, _, _, _, _, _, _, _, _, _, _, _, _, _, _, _, _, _, _, _, _, _, _, _, _, _, _, _, _, _, _, _, _, _, _, _, _, _, _, _, _, _, _, _, _, _, _, _, _, _, _, _, _, _, _, _, _, _, _, _, _, _]) _
          refine wpList_nil (hK143 _ _ ?_)
          refine wp_cond_split (t := (β2 && β3) && β4) (ev rfl) (fun c162 => ?_) (fun c162 => ?_)
          · have c162' := c162
            (try simp only [hβ1, hβ2, hβ3, hβ4] at c162')
            (try simp only [icmp, Bool.and_eq_true, Bool.or_eq_true, Bool.and_eq_false_iff, Bool.or_eq_false_iff, Bool.not_eq_true', Bool.not_eq_false', decide_eq_true_eq, decide_eq_false_iff_not, beq_iff_eq, bne_iff_ne, beq_eq_false_iff_ne, bne_eq_false_iff_eq] at c162')
            simp only [hβ1, hel1, h95, hel2, hel3, h126, h128, h130, hβ2, hβ3, hβ4] at c162
            have hzv : zeroV (unitF (vsub el2 el3)) = true := c162
            refine wp_region_lit ?_
            refine q_is rfl rfl (does_build (parts' := [(0, (Fl 1065353216)), (1, (Fl 0)), (2, (Fl 0))]) (cells := #[(Fl 1065353216), (Fl 0), (Fl 0)]) (evp rfl) (by kernel_rfl)) (by dsimp only [List.set]; try rfl) ?_
            refine seqn rfl rfl (does_store (n := 3) (cs := [(Fl r125), (Fl r127), (Fl r129)]) (u := (.agg #[(Fl 1065353216), (Fl 0), (Fl 0)])) (ev rfl) (ev rfl) Try.sizeOf32 rfl (hB139.ext E158) (Nat.le_of_ble_eq_true rfl) rfl) ?_; rintro _ w165 ⟨rfl, W163, hB164⟩
            change Blk _ _ [(Fl 1065353216), (Fl 0), (Fl 0)] at hB164
            have X166 := Below.wr X161 W163 g137
            refine wpList_nil (hK142 _ _ ?_)
            refine wp_seq_k fun K167 hK167 => ?_
            refine wp_region_lit ?_
            refine q_is rfl rfl (does_loadAgg (cs := [(Fl 1065353216), (Fl 0), (Fl 0)]) (ev rfl) Try.isAgg32 Try.sizeOf32 (Blk.cells hB164) rfl) (by dsimp only [List.set]; try rfl) ?_
            refine q_is rfl rfl (does_move (u := (Fl r94)) (ev rfl)) (by dsimp only [List.set]; try rfl) ?_
            refine seqd rfl rfl (does_float (.inr (.inr (.inl rfl))) (ev rfl) (ev rfl)) ?_; rintro _ w171 ⟨r168, rfl, h169, E170⟩
            have X172 := Ext.gr X166 E170
            show wpList _ _ _ _ (fr [_, _, _, _, _, _, _, _, _, _, _, _, _, _, _, _, _, _, _, _, _, _, _, _, _, _, _, _, _, _, _, _, _, _, _, _, _, _, _, _, _, _, _, _, _, _, _, _, _, _, _, _, _, _, _, _, _, _, _, _, _, _, _, _, _, _, _, _, _, _, _, _, _, _, _, _, _, _, _, _, _, _, _, _, _, _, _, _, _, _, _, _, _, _, _, _, _, _, _, _, _]) _
            refine seqd rfl rfl (does_call (args := #[(.agg #[(Fl 1065353216), (Fl 0), (Fl 0)]), (Fl r168)]) cal64 (evs rfl) (c_impl_ScaleVector [(Fl 1065353216), (Fl 0), (Fl 0)] (V3.mk (cf .f32 1065353216) (cf .f32 0) (cf .f32 0)) r168 _ ⟨1065353216, 0, 0, rfl, rfl, rfl, rfl⟩)) ?_; rintro _ w174 ⟨E173, ⟨_, rfl, ⟨r175, r177, r179, rfl, h176, h178, h180⟩⟩⟩
            have X181 := Ext.gr X172 E173
            show wpList _ _ _ _ (fr [_, _, _, _, _, _, _, _, _, _, _, _, _, _, _, _, _, _, _, _, _, _, _, _, _, _, _, _, _, _, _, _, _, _, _, _, _, _, _, _, _, _, _, _, _, _, _, _, _, _, _, _, _, _, _, _, _, _, _, _, _, _, _, _, _, _, _, _, _, _, _, _, _, _, _, _, _, _, _, _, _, _, _, _, _, _, _, _, _, _, _, _, _, _, _, _, _, _, _, _, _]) _
            refine seqd rfl rfl (does_alloc z32) ?_; rintro _ w186 ⟨b182, rfl, hb183, hB184, E185⟩
            have n187 : gr36 < b182 := Nat.lt_of_lt_of_le (RowG.lt (RowG.ext (RowG.ext (RowG.kl (RowG.ext (RowG.kl (RowG.ext (RowG.ext (RowG.ext (RowG.kl (RowG.ext hR68 RV3.flat E81) RV3.flat (KpL.of_wr W87) (ninS (Nat.ne_of_lt n83) nin0)) RV3.flat E92) RV3.flat E103) RV3.flat E120) RV3.flat (KpL.of_wr W138) (ninS (Nat.ne_of_lt n134) nin0)) RV3.flat E158) RV3.flat (KpL.of_wr W163) (ninS (Nat.ne_of_lt n134) nin0)) RV3.flat E170) RV3.flat E173)) hb183
            have n188 : b74 < b182 := Nat.lt_of_lt_of_le (cell_lt (Cells.at ((((((((((hc77.ext E81).wr W87 (Nat.ne_of_lt n84)).ext E92).ext E103).ext E120).wr W138 (Nat.ne_of_lt n135)).ext E158).wr W163 (Nat.ne_of_lt n135)).ext E170).ext E173) 0 rfl)) hb183
            have n189 : b78 < b182 := Nat.lt_of_lt_of_le (Blk.lt ((((((((hB88.ext E92).ext E103).ext E120).wr W138 (Nat.ne_of_lt n136)).ext E158).wr W163 (Nat.ne_of_lt n136)).ext E170).ext E173)) hb183
            have n190 : b131 < b182 := Nat.lt_of_lt_of_le (Blk.lt ((hB164.ext E170).ext E173)) hb183
            have g191 : w.heap.size ≤ b182 := Nat.le_trans (Below.size X181) hb183
            change Blk _ _ [(Fl 0), (Fl 0), (Fl 0)] at hB184
            have X192 := Ext.gr X181 E185
            show wpList _ _ _ _ (fr [_, _, _, _, _, _, _, _, _, _, _, _, _, _, _, _, _, _, _, _, _, _, _, _, _, _, _, _, _, _, _, _, _, _, _, _, _, _, _, _, _, _, _, _, _, _, _, _, _, _, _, _, _, _, _, _, _, _, _, _, _, _, _, _, _, _, _, _, _, _, _, _, _, _, _, _, _, _, _, _, _, _, _, _, _, _, _, _, _, _, _, _, _, _, _, _, _, _, _, _, _]) _
            refine seqn rfl rfl (does_store (n := 3) (cs := [(Fl 0), (Fl 0), (Fl 0)]) (u := (.agg #[(Fl r175), (Fl r177), (Fl r179)])) (ev rfl) (ev rfl) Try.sizeOf32 rfl hB184 (Nat.le_of_ble_eq_true rfl) rfl) ?_; rintro _ w195 ⟨rfl, W193, hB194⟩
            change Blk _ _ [(Fl r175), (Fl r177), (Fl r179)] at hB194
            have X196 := Below.wr X192 W193 g191
            refine wpList_nil (hK167 _ _ ?_)
            have n200 : gr36 < w195.heap.size := RowG.lt (RowG.kl (RowG.ext (RowG.ext (RowG.ext (RowG.kl (RowG.ext (RowG.kl (RowG.ext (RowG.ext (RowG.ext (RowG.kl (RowG.ext hR68 RV3.flat E81) RV3.flat (KpL.of_wr W87) (ninS (Nat.ne_of_lt n83) nin0)) RV3.flat E92) RV3.flat E103) RV3.flat E120) RV3.flat (KpL.of_wr W138) (ninS (Nat.ne_of_lt n134) nin0)) RV3.flat E158) RV3.flat (KpL.of_wr W163) (ninS (Nat.ne_of_lt n134) nin0)) RV3.flat E170) RV3.flat E173) RV3.flat E185) RV3.flat (KpL.of_wr W193) (ninS (Nat.ne_of_lt n187) nin0))
            refine region_any2 [gr36] [0, 0, 2, 0, 0, 16, 0, 0, 128, 448, 960, 0, 4032, 0, 0, 16384, 57344, 122880, 0, 524224, 1048519, 2097095, 4194303, 8388607] [0] (
              [FactW.pure [] [] [0] true (fun v => v = (.slice (some ⟨gr36, 0, none⟩) L_ctr.length q32)),
                FactW.pure [] [] [0] true (fun v => v = (Pt b78 0)),
                FactW.pure [1] [] [0] true (fun v => v = (Iv el1.1)),
                FactW.pure [] [0] [0] true (fun v => v = (.slice (some ⟨gr36, 0, none⟩) L_ctr.length q32)),
                FactW.pure [] [0] [0] true (fun v => v = (Pt b78 1)),
                FactW.pure [4] [0] [0] true (fun v => v = (Iv el1.2)),
                FactW.pure [] [] [0] true (fun v => v = (.slice (some ⟨gr36, 0, none⟩) L_ctr.length q32)),
                FactW.pure [] [] [0] true (fun v => v = (Pt b78 0)),
                FactW.pure [7] [] [0] true (fun v => v = (Iv el1.1)),
                FactW.pure [6, 8] [] [0] true (fun v => v = (Pt gr36 (el1.1.toNat * 3))),
                FactW.pure [9] [] [0] true (fun v => ∃ cs_1 : List Value, v = (.agg cs_1.toArray) ∧ RV3 w el3 cs_1),
                FactW.pure [] [] [0] true (fun v => v = (.agg #[(Fl r175), (Fl r177), (Fl r179)])),
                FactW.pure [10, 11] [] [0] true (fun v => ∃ cs_1 : List Value, v = (.agg cs_1.toArray) ∧ RV3 w (vsub el3 (vscale (V3.mk (cf .f32 1065353216) (cf .f32 0) (cf .f32 0)) (cf .f32 r168))) cs_1),
                FactW.pure [] [] [0] true (fun v => v = (.slice (some ⟨gr36, 0, none⟩) L_ctr.length q32)),
                FactW.pure [] [] [0] true (fun v => v = (Pt b78 1)),
                FactW.pure [14] [] [0] true (fun v => v = (Iv el1.2)),
                FactW.pure [13, 15] [] [0] true (fun v => v = (Pt gr36 (el1.2.toNat * 3))),
                FactW.pure [16] [] [0] true (fun v => ∃ cs_1 : List Value, v = (.agg cs_1.toArray) ∧ RV3 w el2 cs_1),
                FactW.pure [] [] [0] true (fun v => v = (.agg #[(Fl r175), (Fl r177), (Fl r179)])),
                FactW.pure [17, 18] [] [0] true (fun v => ∃ cs_1 : List Value, v = (.agg cs_1.toArray) ∧ RV3 w (vadd el2 (vscale (V3.mk (cf .f32 1065353216) (cf .f32 0) (cf .f32 0)) (cf .f32 r168))) cs_1),
                FactW.pure [0, 2] [] [0] true (fun v => v = (Pt gr36 (el1.1.toNat * 3))),
                FactW.mem [20, 12] [] [0] [] true (fun v w' => RowG RV3 3 w' gr36 ((((pairsTo L_ctr.length L_ctr.length).take m).foldl (partB L_rad) (prN L_rad L_ctr k)).set el1.1.toNat (vsub el3 (vscale (V3.mk (cf .f32 1065353216) (cf .f32 0) (cf .f32 0)) (cf .f32 r168))))) (by intro v w1 w2 hx h; exact RowG.kl h RV3.flat hx nin0)]) mixed (by kernel_rfl) ?_
            obtain ⟨w197, hw199⟩ : ∃ w', w' = World.drew w195 := ⟨_, rfl⟩; rw [← hw199]; have E198 : Ext w195 w197 := by rw [hw199]; exact Ext.draw _
            clear hw199
            have X201 := Ext.gr X196 E198
            refine RW2_d _ rfl (fun v => by dsimp only [List.set]; try rfl) (fun u hu hF => ?_) (fun v202 => ?_)
            · replace hu : KpL [] _ _ := hu
              clear hF
              refine doesG_un rfl ?_
              refine (does_move (u := (.slice (some ⟨gr36, 0, none⟩) L_ctr.length q32)) (ev rfl)).mono ?_; rintro _ _ ⟨rfl, rfl⟩
              exact ⟨rfl, KpL.refl _ _⟩
            refine RW2_d _ rfl (fun v => by dsimp only [List.set]; try rfl) (fun u hu hF => ?_) (fun v203 => ?_)
            · replace hu : KpL [] _ _ := hu
              clear hF
              refine doesG_un rfl ?_
              refine (does_indexAt_run (r := (Pt b78 0)) (ev rfl) (ev rfl) (fun w => ia91_0 _ _ w)).mono ?_; rintro _ _ ⟨rfl, rfl⟩
              exact ⟨rfl, KpL.refl _ _⟩
            refine RW2_d _ rfl (fun v => by dsimp only [List.set]; try rfl) (fun u hu hF => ?_) (fun v204 => ?_)
            · replace hu : KpL [] _ _ := hu
              have h77_ : v203 = (Pt b78 0) := hF.1
              clear hF
              refine doesG_un rfl ?_
              obtain rfl := h77_
              refine (does_load (u := (Iv el1.1)) (ev rfl) Try.isAgg3 (Cells.at (Blk.cells ((((((((((((hB88.ext E92).ext E103).ext E120).wr W138 (Nat.ne_of_lt n136)).ext E158).wr W163 (Nat.ne_of_lt n136)).ext E170).ext E173).ext E185).wr W193 (Nat.ne_of_lt n189)).ext E198).ext (KpL.toExt hu))) 0 rfl)).mono ?_; rintro _ _ ⟨rfl, rfl⟩
              exact ⟨rfl, KpL.refl _ _⟩
            refine RW2_d _ rfl (fun v => by dsimp only [List.set]; try rfl) (fun u hu hF => ?_) (fun v205 => ?_)
            · replace hu : KpL [gr36] _ _ := hu
              clear hF
              refine doesG_un rfl ?_
              refine (does_move (u := (.slice (some ⟨gr36, 0, none⟩) L_ctr.length q32)) (ev rfl)).mono ?_; rintro _ _ ⟨rfl, rfl⟩
              exact ⟨rfl, KpL.refl _ _⟩
            refine RW2_d _ rfl (fun v => by dsimp only [List.set]; try rfl) (fun u hu hF => ?_) (fun v206 => ?_)
            · replace hu : KpL [gr36] _ _ := hu
              clear hF
              refine doesG_un rfl ?_
              refine (does_indexAt_run (r := (Pt b78 1)) (ev rfl) (ev rfl) (fun w => ia91_1 _ _ w)).mono ?_; rintro _ _ ⟨rfl, rfl⟩
              exact ⟨rfl, KpL.refl _ _⟩
            refine RW2_d _ rfl (fun v => by dsimp only [List.set]; try rfl) (fun u hu hF => ?_) (fun v207 => ?_)
            · replace hu : KpL [gr36] _ _ := hu
              have h80_ : v206 = (Pt b78 1) := hF.1
              clear hF
              refine doesG_un rfl ?_
              obtain rfl := h80_
              refine (does_load (u := (Iv el1.2)) (ev rfl) Try.isAgg3 (Cells.at (Blk.cells ((((((((((((hB88.ext E92).ext E103).ext E120).wr W138 (Nat.ne_of_lt n136)).ext E158).wr W163 (Nat.ne_of_lt n136)).ext E170).ext E173).ext E185).wr W193 (Nat.ne_of_lt n189)).ext E198).kl hu (ninS (Nat.ne_of_gt n83) nin0))) 1 rfl)).mono ?_; rintro _ _ ⟨rfl, rfl⟩
              exact ⟨rfl, KpL.refl _ _⟩
            refine RW2_d _ rfl (fun v => by dsimp only [List.set]; try rfl) (fun u hu hF => ?_) (fun v208 => ?_)
            · replace hu : KpL [] _ _ := hu
              clear hF
              refine doesG_un rfl ?_
              refine (does_move (u := (.slice (some ⟨gr36, 0, none⟩) L_ctr.length q32)) (ev rfl)).mono ?_; rintro _ _ ⟨rfl, rfl⟩
              exact ⟨rfl, KpL.refl _ _⟩
            refine RW2_d _ rfl (fun v => by dsimp only [List.set]; try rfl) (fun u hu hF => ?_) (fun v209 => ?_)
            · replace hu : KpL [] _ _ := hu
              clear hF
              refine doesG_un rfl ?_
              refine (does_indexAt_run (r := (Pt b78 0)) (ev rfl) (ev rfl) (fun w => ia91_0 _ _ w)).mono ?_; rintro _ _ ⟨rfl, rfl⟩
              exact ⟨rfl, KpL.refl _ _⟩
            refine RW2_d _ rfl (fun v => by dsimp only [List.set]; try rfl) (fun u hu hF => ?_) (fun v210 => ?_)
            · replace hu : KpL [] _ _ := hu
              have h83_ : v209 = (Pt b78 0) := hF.1
              clear hF
              refine doesG_un rfl ?_
              obtain rfl := h83_
              refine (does_load (u := (Iv el1.1)) (ev rfl) Try.isAgg3 (Cells.at (Blk.cells ((((((((((((hB88.ext E92).ext E103).ext E120).wr W138 (Nat.ne_of_lt n136)).ext E158).wr W163 (Nat.ne_of_lt n136)).ext E170).ext E173).ext E185).wr W193 (Nat.ne_of_lt n189)).ext E198).ext (KpL.toExt hu))) 0 rfl)).mono ?_; rintro _ _ ⟨rfl, rfl⟩
              exact ⟨rfl, KpL.refl _ _⟩
            refine RW2_d _ rfl (fun v => by dsimp only [List.set]; try rfl) (fun u hu hF => ?_) (fun v211 => ?_)
            · replace hu : KpL [] _ _ := hu
              have h82_ : v208 = (.slice (some ⟨gr36, 0, none⟩) L_ctr.length q32) := hF.1
              have h84_ : v210 = (Iv el1.1) := hF.2.1
              clear hF
              refine doesG_un rfl ?_
              obtain rfl := h82_
              obtain rfl := h84_
              refine (does_indexOwn (b := gr36) (n := L_ctr.length) (i := el1.1) Try.underlying47 Try.sizeOf32 (ev rfl) (ev rfl) (by omega) (by omega)).mono ?_; rintro _ _ ⟨rfl, rfl⟩
              exact ⟨rfl, KpL.refl _ _⟩
            refine RW2_d _ rfl (fun v => by dsimp only [List.set]; try rfl) (fun u hu hF => ?_) (fun v212 => ?_)
            · replace hu : KpL [] _ _ := hu
              have h85_ : v211 = (Pt gr36 (el1.1.toNat * 3)) := hF.1
              clear hF
              refine doesG_un rfl ?_
              obtain rfl := h85_
              refine (does_loadRowG (R := RV3) (k := 3) (xs := (((pairsTo L_ctr.length L_ctr.length).take m).foldl (partB L_rad) (prN L_rad L_ctr k))) (i := el1.1.toNat) (e := el3) (ev rfl) Try.isAgg32 Try.sizeOf32 (RowG.ext (RowG.ext (RowG.kl (RowG.ext (RowG.ext (RowG.ext (RowG.kl (RowG.ext (RowG.kl (RowG.ext (RowG.ext (RowG.ext (RowG.kl (RowG.ext hR68 RV3.flat E81) RV3.flat (KpL.of_wr W87) (ninS (Nat.ne_of_lt n83) nin0)) RV3.flat E92) RV3.flat E103) RV3.flat E120) RV3.flat (KpL.of_wr W138) (ninS (Nat.ne_of_lt n134) nin0)) RV3.flat E158) RV3.flat (KpL.of_wr W163) (ninS (Nat.ne_of_lt n134) nin0)) RV3.flat E170) RV3.flat E173) RV3.flat E185) RV3.flat (KpL.of_wr W193) (ninS (Nat.ne_of_lt n187) nin0)) RV3.flat E198) RV3.flat (KpL.toExt hu)) rfl hel3).mono ?_; rintro v u' ⟨hx, ⟨csn1, hv, k0⟩⟩
              exact ⟨⟨csn1, hv, k0⟩, (KpL.of_ext hx)⟩
            refine RW2_d _ rfl (fun v => by dsimp only [List.set]; try rfl) (fun u hu hF => ?_) (fun v213 => ?_)
            · replace hu : KpL [] _ _ := hu
              clear hF
              refine doesG_un rfl ?_
              refine (does_loadAgg (cs := [(Fl r175), (Fl r177), (Fl r179)]) (ev rfl) Try.isAgg32 Try.sizeOf32 (Blk.cells ((hB194.ext E198).ext (KpL.toExt hu))) rfl).mono ?_; rintro _ _ ⟨rfl, rfl⟩
              exact ⟨rfl, KpL.refl _ _⟩
            refine RW2_d _ rfl (fun v => by dsimp only [List.set]; try rfl) (fun u hu hF => ?_) (fun v214 => ?_)
            · replace hu : KpL [] _ _ := hu
              have h86_ : ∃ cs_1 : List Value, v212 = (.agg cs_1.toArray) ∧ RV3 w el3 cs_1 := hF.1
              have h87_ : v213 = (.agg #[(Fl r175), (Fl r177), (Fl r179)]) := hF.2.1
              clear hF
              refine doesG_un rfl ?_
              obtain ⟨_, rfl, ⟨r86_1, r86_3, r86_5, rfl, h86_2, h86_4, h86_6⟩⟩ := h86_
              obtain rfl := h87_
              refine (does_call (args := #[(.agg #[(Fl r86_1), (Fl r86_3), (Fl r86_5)]), (.agg #[(Fl r175), (Fl r177), (Fl r179)])]) cal63 (evs rfl) (c_impl_LessVectors [(Fl r86_1), (Fl r86_3), (Fl r86_5)] el3 [(Fl r175), (Fl r177), (Fl r179)] (vscale (V3.mk (cf .f32 1065353216) (cf .f32 0) (cf .f32 0)) (cf .f32 r168)) _ ⟨r86_1, r86_3, r86_5, rfl, (by assumption), (by assumption), (by assumption)⟩ ⟨r175, r177, r179, rfl, h176, h178, h180⟩)).mono ?_; rintro v u' ⟨hx, ⟨csn1, hv, k0⟩⟩
              exact ⟨⟨csn1, hv.trans (by simp only [h86_2, h86_4, h86_6]), (by first | exact k0 | simpa only [h86_2, h86_4, h86_6] using RV3.any (w := w) k0)⟩, (KpL.of_ext hx)⟩
            refine RW2_d _ rfl (fun v => by dsimp only [List.set]; try rfl) (fun u hu hF => ?_) (fun v215 => ?_)
            · replace hu : KpL [] _ _ := hu
              clear hF
              refine doesG_un rfl ?_
              refine (does_move (u := (.slice (some ⟨gr36, 0, none⟩) L_ctr.length q32)) (ev rfl)).mono ?_; rintro _ _ ⟨rfl, rfl⟩
              exact ⟨rfl, KpL.refl _ _⟩
            refine RW2_d _ rfl (fun v => by dsimp only [List.set]; try rfl) (fun u hu hF => ?_) (fun v216 => ?_)
            · replace hu : KpL [] _ _ := hu
              clear hF
              refine doesG_un rfl ?_
              refine (does_indexAt_run (r := (Pt b78 1)) (ev rfl) (ev rfl) (fun w => ia91_1 _ _ w)).mono ?_; rintro _ _ ⟨rfl, rfl⟩
              exact ⟨rfl, KpL.refl _ _⟩
            refine RW2_d _ rfl (fun v => by dsimp only [List.set]; try rfl) (fun u hu hF => ?_) (fun v217 => ?_)
            · replace hu : KpL [] _ _ := hu
              have h90_ : v216 = (Pt b78 1) := hF.1
              clear hF
              refine doesG_un rfl ?_
              obtain rfl := h90_
              refine (does_load (u := (Iv el1.2)) (ev rfl) Try.isAgg3 (Cells.at (Blk.cells ((((((((((((hB88.ext E92).ext E103).ext E120).wr W138 (Nat.ne_of_lt n136)).ext E158).wr W163 (Nat.ne_of_lt n136)).ext E170).ext E173).ext E185).wr W193 (Nat.ne_of_lt n189)).ext E198).ext (KpL.toExt hu))) 1 rfl)).mono ?_; rintro _ _ ⟨rfl, rfl⟩
              exact ⟨rfl, KpL.refl _ _⟩
            refine RW2_d _ rfl (fun v => by dsimp only [List.set]; try rfl) (fun u hu hF => ?_) (fun v218 => ?_)
            · replace hu : KpL [] _ _ := hu
              have h89_ : v215 = (.slice (some ⟨gr36, 0, none⟩) L_ctr.length q32) := hF.1
              have h91_ : v217 = (Iv el1.2) := hF.2.1
              clear hF
              refine doesG_un rfl ?_
              obtain rfl := h89_
              obtain rfl := h91_
              refine (does_indexOwn (b := gr36) (n := L_ctr.length) (i := el1.2) Try.underlying47 Try.sizeOf32 (ev rfl) (ev rfl) (by omega) (by omega)).mono ?_; rintro _ _ ⟨rfl, rfl⟩
              exact ⟨rfl, KpL.refl _ _⟩
            refine RW2_d _ rfl (fun v => by dsimp only [List.set]; try rfl) (fun u hu hF => ?_) (fun v219 => ?_)
            · replace hu : KpL [] _ _ := hu
              have h92_ : v218 = (Pt gr36 (el1.2.toNat * 3)) := hF.1
              clear hF
              refine doesG_un rfl ?_
              obtain rfl := h92_
              refine (does_loadRowG (R := RV3) (k := 3) (xs := (((pairsTo L_ctr.length L_ctr.length).take m).foldl (partB L_rad) (prN L_rad L_ctr k))) (i := el1.2.toNat) (e := el2) (ev rfl) Try.isAgg32 Try.sizeOf32 (RowG.ext (RowG.ext (RowG.kl (RowG.ext (RowG.ext (RowG.ext (RowG.kl (RowG.ext (RowG.kl (RowG.ext (RowG.ext (RowG.ext (RowG.kl (RowG.ext hR68 RV3.flat E81) RV3.flat (KpL.of_wr W87) (ninS (Nat.ne_of_lt n83) nin0)) RV3.flat E92) RV3.flat E103) RV3.flat E120) RV3.flat (KpL.of_wr W138) (ninS (Nat.ne_of_lt n134) nin0)) RV3.flat E158) RV3.flat (KpL.of_wr W163) (ninS (Nat.ne_of_lt n134) nin0)) RV3.flat E170) RV3.flat E173) RV3.flat E185) RV3.flat (KpL.of_wr W193) (ninS (Nat.ne_of_lt n187) nin0)) RV3.flat E198) RV3.flat (KpL.toExt hu)) rfl hel2).mono ?_; rintro v u' ⟨hx, ⟨csn1, hv, k0⟩⟩
              exact ⟨⟨csn1, hv, k0⟩, (KpL.of_ext hx)⟩
            refine RW2_d _ rfl (fun v => by dsimp only [List.set]; try rfl) (fun u hu hF => ?_) (fun v220 => ?_)
            · replace hu : KpL [] _ _ := hu
              clear hF
              refine doesG_un rfl ?_
              refine (does_loadAgg (cs := [(Fl r175), (Fl r177), (Fl r179)]) (ev rfl) Try.isAgg32 Try.sizeOf32 (Blk.cells ((hB194.ext E198).ext (KpL.toExt hu))) rfl).mono ?_; rintro _ _ ⟨rfl, rfl⟩
              exact ⟨rfl, KpL.refl _ _⟩
            refine RW2_d _ rfl (fun v => by dsimp only [List.set]; try rfl) (fun u hu hF => ?_) (fun v221 => ?_)
            · replace hu : KpL [] _ _ := hu
              have h93_ : ∃ cs_1 : List Value, v219 = (.agg cs_1.toArray) ∧ RV3 w el2 cs_1 := hF.1
              have h94_ : v220 = (.agg #[(Fl r175), (Fl r177), (Fl r179)]) := hF.2.1
              clear hF
              refine doesG_un rfl ?_
              obtain ⟨_, rfl, ⟨r93_1, r93_3, r93_5, rfl, h93_2, h93_4, h93_6⟩⟩ := h93_
              obtain rfl := h94_
              refine (does_call (args := #[(.agg #[(Fl r93_1), (Fl r93_3), (Fl r93_5)]), (.agg #[(Fl r175), (Fl r177), (Fl r179)])]) cal65 (evs rfl) (c_impl_AddVectors [(Fl r93_1), (Fl r93_3), (Fl r93_5)] el2 [(Fl r175), (Fl r177), (Fl r179)] (vscale (V3.mk (cf .f32 1065353216) (cf .f32 0) (cf .f32 0)) (cf .f32 r168)) _ ⟨r93_1, r93_3, r93_5, rfl, (by assumption), (by assumption), (by assumption)⟩ ⟨r175, r177, r179, rfl, h176, h178, h180⟩)).mono ?_; rintro v u' ⟨hx, ⟨csn1, hv, k0⟩⟩
              exact ⟨⟨csn1, hv.trans (by simp only [h93_2, h93_4, h93_6]), (by first | exact k0 | simpa only [h93_2, h93_4, h93_6] using RV3.any (w := w) k0)⟩, (KpL.of_ext hx)⟩
            refine RW2_d _ rfl (fun v => by dsimp only [List.set]; try rfl) (fun u hu hF => ?_) (fun v222 => ?_)
            · replace hu : KpL [] _ _ := hu
              have h76_ : v202 = (.slice (some ⟨gr36, 0, none⟩) L_ctr.length q32) := hF.1
              have h78_ : v204 = (Iv el1.1) := hF.2.1
              clear hF
              refine doesG_un rfl ?_
              obtain rfl := h76_
              obtain rfl := h78_
              refine (does_indexOwn (b := gr36) (n := L_ctr.length) (i := el1.1) Try.underlying47 Try.sizeOf32 (ev rfl) (ev rfl) (by omega) (by omega)).mono ?_; rintro _ _ ⟨rfl, rfl⟩
              exact ⟨rfl, KpL.refl _ _⟩
            refine RW2_n rfl (fun u hu hF => ?_) (fun v223 => ?_)
            · replace hu : KpL [] _ _ := hu
              have h96_ : v222 = (Pt gr36 (el1.1.toNat * 3)) := hF.1
              have h88_ : ∃ cs_1 : List Value, v214 = (.agg cs_1.toArray) ∧ RV3 w (vsub el3 (vscale (V3.mk (cf .f32 1065353216) (cf .f32 0) (cf .f32 0)) (cf .f32 r168))) cs_1 := hF.2.1
              clear hF
              refine doesG_un rfl ?_
              obtain rfl := h96_
              obtain ⟨_, rfl, ⟨r88_1, r88_3, r88_5, rfl, h88_2, h88_4, h88_6⟩⟩ := h88_
              refine (does_storeRowG (R := RV3) (k := 3) (xs := (((pairsTo L_ctr.length L_ctr.length).take m).foldl (partB L_rad) (prN L_rad L_ctr k))) (i := el1.1.toNat) (u := (.agg #[(Fl r88_1), (Fl r88_3), (Fl r88_5)])) (e := (vsub el3 (vscale (V3.mk (cf .f32 1065353216) (cf .f32 0) (cf .f32 0)) (cf .f32 r168)))) (ev rfl) (ev rfl) Try.sizeOf32 rfl rfl RV3.flat (RowG.ext (RowG.ext (RowG.kl (RowG.ext (RowG.ext (RowG.ext (RowG.kl (RowG.ext (RowG.kl (RowG.ext (RowG.ext (RowG.ext (RowG.kl (RowG.ext hR68 RV3.flat E81) RV3.flat (KpL.of_wr W87) (ninS (Nat.ne_of_lt n83) nin0)) RV3.flat E92) RV3.flat E103) RV3.flat E120) RV3.flat (KpL.of_wr W138) (ninS (Nat.ne_of_lt n134) nin0)) RV3.flat E158) RV3.flat (KpL.of_wr W163) (ninS (Nat.ne_of_lt n134) nin0)) RV3.flat E170) RV3.flat E173) RV3.flat E185) RV3.flat (KpL.of_wr W193) (ninS (Nat.ne_of_lt n187) nin0)) RV3.flat E198) RV3.flat (KpL.toExt hu)) rfl (by first | assumption | omega | (simp only [foldP_len, prN_len, List.length_set, List.length_replicate]; omega) | (simp only [foldP_len, prN_len, List.length_set, List.length_replicate]; done)) ⟨r88_1, r88_3, r88_5, rfl, (by assumption), (by assumption), (by assumption)⟩).mono ?_; rintro _ _ ⟨rfl, hW, hB⟩
              exact ⟨hB, KpL.of_wr hW⟩
            refine RW2_fin ?_; intro w224 E225 hP226; replace E225 : KpL [gr36] _ _ := E225
            obtain ⟨⟨⟨⟨⟨⟨⟨⟨⟨⟨⟨⟨⟨⟨⟨⟨⟨⟨⟨⟨⟨⟨-, -⟩, -⟩, -⟩, q227⟩, -⟩, q228⟩, -⟩, -⟩, -⟩, -⟩, -⟩, -⟩, -⟩, -⟩, -⟩, -⟩, -⟩, -⟩, -⟩, q229⟩, -⟩, q230⟩ := hP226
            have X231 := Below.kl X201 E225 (allS g42 all0) (Nat.le_refl _)
            have hB232 := q230 rfl
            have q227 : v205 = (.slice (some ⟨gr36, 0, none⟩) L_ctr.length q32) := q227 rfl
            obtain rfl := q227
            have q228 : v207 = (Iv el1.2) := q228 rfl
            obtain rfl := q228
            have q229 : ∃ cs_1 : List Value, v221 = (.agg cs_1.toArray) ∧ RV3 w (vadd el2 (vscale (V3.mk (cf .f32 1065353216) (cf .f32 0) (cf .f32 0)) (cf .f32 r168))) cs_1 := q229 rfl
            obtain ⟨_, rfl, ⟨r233, r235, r237, rfl, h234, h236, h238⟩⟩ := q229
            show wpList _ _ _ _ (fr [_, _, _, _, _, _, _, _, _, _, _, _, _, _, _, _, _, _, _, _, _, _, _, _, _, _, _, _, _, _, _, _, _, _, _, _, _, _, _, _, _, _, _, _, _, _, _, _, _, _, _, _, _, _, _, _, _, _, _, _, _, _, _, _, _, _, _, _, _, _, _, _, _, _, _, _, _, _, _, _, _, _, _, _, _, _, _, _, _, _, _, _, _, _, _, _, _, _, _, _, _]) _
            refine q_is rfl rfl (does_indexOwn (b := gr36) (n := L_ctr.length) (i := el1.2) Try.underlying47 Try.sizeOf32 (ev rfl) (ev rfl) (by omega) (by omega)) (by dsimp only [List.set]; try rfl) ?_
            refine seqn rfl rfl (does_storeRowG (R := RV3) (k := 3) (xs := ((((pairsTo L_ctr.length L_ctr.length).take m).foldl (partB L_rad) (prN L_rad L_ctr k)).set el1.1.toNat (vsub el3 (vscale (V3.mk (cf .f32 1065353216) (cf .f32 0) (cf .f32 0)) (cf .f32 r168))))) (i := el1.2.toNat) (u := (.agg #[(Fl r233), (Fl r235), (Fl r237)])) (e := (vadd el2 (vscale (V3.mk (cf .f32 1065353216) (cf .f32 0) (cf .f32 0)) (cf .f32 r168)))) (ev rfl) (ev rfl) Try.sizeOf32 rfl rfl RV3.flat hB232 rfl (by first | assumption | omega | (simp only [foldP_len, prN_len, List.length_set, List.length_replicate]; omega) | (simp only [foldP_len, prN_len, List.length_set, List.length_replicate]; done)) ⟨r233, r235, r237, rfl, h234, h236, h238⟩) ?_; rintro _ w241 ⟨rfl, W239, hR240⟩
            have X242 := Below.wr X231 W239 g42
            refine wpList_nil (hK72 _ _ ?_)
            refine wp_region_lit ?_
            refine q_is rfl rfl (does_iarith (p := (m : Int)) (q := 1) (r := (m : Int) + 1) (ev rfl) (ev rfl) (.inl ⟨rfl, (in_i64 (by omega) (by omega)).symm⟩)) (by dsimp only [List.set]; try rfl) ?_
            refine q_is rfl rfl (does_move (u := (Iv ((m : Int) + 1))) (ev rfl)) (by dsimp only [List.set]; try rfl) ?_
            refine wpList_nil ?_
            have hR243 := RowG.cast (ys := ((fun (m : Nat) => ((pairsTo L_ctr.length L_ctr.length).take m).foldl (partB L_rad) (prN L_rad L_ctr k)) (m + 1))) hR240 (by (try dsimp only); rw [fold_take hel1]; first | exact (partB_f hxg).symm | exact partB_t hxg hel3 hel2 (by first | (rw [wayB_n hzv]; simp only [halfF, hβ1, hel1, h95, hel2, hel3, h126, h128, h130, hβ2, hβ3, hβ4, h169, h176, h178, h180, h234, h236, h238]; done) | (rw [wayB_z hzv]; simp only [halfF, hβ1, hel1, h95, hel2, hel3, h126, h128, h130, hβ2, hβ3, hβ4, h169, h176, h178, h180, h234, h236, h238]; done)))
            refine ⟨m + 1, ⟨fun t => (([(.slice p_ctr L_ctr.length q_ctr), (.slice p_rad L_rad.length q_rad), (Iv rnd), Ud, Ud, Ud, (.slice none 0 0), (Bo false), (.slice (some ⟨gr36, 0, none⟩) L_ctr.length q32), Ud, (Pt b78 0), (Fl r94), (Pt b131 0), (Pt b182 0), v4, v5, v6, v7, v8, v9, v10, v11, (Bo β1), (.slice p_ctr L_ctr.length q_ctr), (.slice (some ⟨gr36, 0, none⟩) L_ctr.length q32), (Iv rnd), (Iv (k : Int)), (Bo (icmp .lss (k : Int) rnd)), (.slice (some ⟨gr36, 0, none⟩) L_ctr.length q32), (Iv (L_ctr.length : Int)), (.slice p61 ((pairsTo L_ctr.length L_ctr.length).length) q62), (Iv (((pairsTo L_ctr.length L_ctr.length).length) : Int)), (Iv ((m : Int) + 1)), (Bo (icmp .lss (m : Int) (((pairsTo L_ctr.length L_ctr.length).length) : Int))), (Pt b74 o75), (.agg #[(Iv el1.1), (Iv el1.2)]), (.slice (some ⟨gr36, 0, none⟩) L_ctr.length q32), (.slice p_rad L_rad.length q_rad), (Pt b78 0), (Iv el1.1), (Pt b78 1), (Iv el1.2), (Fl r94), (Fl r94), (Bo (fcmp .gtr (ford .f32 (cf .f32 r94) (cf .f32 0)))), (Bo (!(fcmp .gtr (ford .f32 (cf .f32 r94) (cf .f32 0))))), v106, v107, v108, v109, v110, v111, v112, v113, v114, v115, v116, (.agg #[(Fl r125), (Fl r127), (Fl r129)]), v144, v145, v146, v147, v148, v149, v150, v151, v152, v153, v154, v155, (Bo ((β2 && β3) && β4)), (.agg #[(Fl 1065353216), (Fl 0), (Fl 0)]), (.agg #[(Fl 1065353216), (Fl 0), (Fl 0)]), (Fl r94), (Fl r168), (.agg #[(Fl r175), (Fl r177), (Fl r179)]), v202, v203, v204, (.slice (some ⟨gr36, 0, none⟩) L_ctr.length q32), v206, (Iv el1.2), v208, v209, v210, v211, v212, v213, v214, v215, v216, v217, v218, v219, v220, (.agg #[(Fl r233), (Fl r235), (Fl r237)]), v222, (Pt gr36 (el1.2.toNat * 3)), (Iv ((m : Int) + 1)), (u44 99), Ud] : List Value)[t]?).getD undef, ?_, (KpL.more (KpL.more (KpL.ext (KpL.more (KpL.ext (KpL.ext (KpL.ext (KpL.more (KpL.ext (KpL.more (KpL.ext (KpL.ext (KpL.ext (KpL.more (KpL.ext E65 E81) (KpL.of_wr W87) (allS (.inr (Nat.le_trans E65.size hb79)) all0)) E92) E103) E120) (KpL.of_wr W138) (allS (.inr (Nat.le_trans (KpL.ext (KpL.more (KpL.ext E65 E81) (KpL.of_wr W87) (allS (.inr (Nat.le_trans E65.size hb79)) all0)) E92).size hb132)) all0)) E158) (KpL.of_wr W163) (allS (.inr (Nat.le_trans (KpL.ext (KpL.more (KpL.ext E65 E81) (KpL.of_wr W87) (allS (.inr (Nat.le_trans E65.size hb79)) all0)) E92).size hb132)) all0)) E170) E173) E185) (KpL.of_wr W193) (allS (.inr (Nat.le_trans (KpL.ext (KpL.ext (KpL.more (KpL.ext (KpL.more (KpL.ext (KpL.ext (KpL.ext (KpL.more (KpL.ext E65 E81) (KpL.of_wr W87) (allS (.inr (Nat.le_trans E65.size hb79)) all0)) E92) E103) E120) (KpL.of_wr W138) (allS (.inr (Nat.le_trans (KpL.ext (KpL.more (KpL.ext E65 E81) (KpL.of_wr W87) (allS (.inr (Nat.le_trans E65.size hb79)) all0)) E92).size hb132)) all0)) E158) (KpL.of_wr W163) (allS (.inr (Nat.le_trans (KpL.ext (KpL.more (KpL.ext E65 E81) (KpL.of_wr W87) (allS (.inr (Nat.le_trans E65.size hb79)) all0)) E92).size hb132)) all0)) E170) E173).size hb183)) all0)) E198) E225 (allS (.inl (by simp)) all0)) (KpL.of_wr W239) (allS (.inl (by simp)) all0)), hR243, ?_⟩, ?_⟩
            · first | rfl | (simp only [Nat.cast_add, Nat.cast_one, Int.natCast_add, Int.natCast_one]; rfl)
            · (try dsimp only); omega
            · (try dsimp only); omega
          have c162' := c162
          (try simp only [hβ1, hβ2, hβ3, hβ4] at c162')
          (try simp only [icmp, Bool.and_eq_true, Bool.or_eq_true, Bool.and_eq_false_iff, Bool.or_eq_false_iff, Bool.not_eq_true', Bool.not_eq_false', decide_eq_true_eq, decide_eq_false_iff_not, beq_iff_eq, bne_iff_ne, beq_eq_false_iff_ne, bne_eq_false_iff_eq] at c162')
          simp only [hβ1, hel1, h95, hel2, hel3, h126, h128, h130, hβ2, hβ3, hβ4] at c162
          have hzv : zeroV (unitF (vsub el2 el3)) = false := c162
          refine wp_skip (hK142 _ _ ?_)
          refine wp_seq_k fun K244 hK244 => ?_
          refine wp_region_lit ?_
          refine q_is rfl rfl (does_loadAgg (cs := [(Fl r125), (Fl r127), (Fl r129)]) (ev rfl) Try.isAgg32 Try.sizeOf32 (Blk.cells (hB139.ext E158)) rfl) (by dsimp only [List.set]; try rfl) ?_
          refine q_is rfl rfl (does_move (u := (Fl r94)) (ev rfl)) (by dsimp only [List.set]; try rfl) ?_
          refine seqd rfl rfl (does_float (.inr (.inr (.inl rfl))) (ev rfl) (ev rfl)) ?_; rintro _ w248 ⟨r245, rfl, h246, E247⟩
          have X249 := Ext.gr X161 E247
          show wpList _ _ _ _ (fr [_, _, _, _, _, _, _, _, _, _, _, _, _, _, _, _, _, _, _, _, _, _, _, _, _, _, _, _, _, _, _, _, _, _, _, _, _, _, _, _, _, _, _, _, _, _, _, _, _, _, _, _, _, _, _, _, _, _, _, _, _, _, _, _, _, _, _, _, _, _, _, _, _, _, _, _, _, _, _, _, _, _, _, _, _, _, _, _, _, _, _, _, _, _, _, _, _, _, _, _, _]) _
          refine seqd rfl rfl (does_call (args := #[(.agg #[(Fl r125), (Fl r127), (Fl r129)]), (Fl r245)]) cal64 (evs rfl) (c_impl_ScaleVector [(Fl r125), (Fl r127), (Fl r129)] (unitF (vsub el2 el3)) r245 _ ⟨r125, r127, r129, rfl, h126, h128, h130⟩)) ?_; rintro _ w251 ⟨E250, ⟨_, rfl, ⟨r252, r254, r256, rfl, h253, h255, h257⟩⟩⟩
          have X258 := Ext.gr X249 E250
          show wpList _ _ _ _ (fr [_, _, _, _, _, _, _, _, _, _, _, _, _, _, _, _, _, _, _, _, _, _, _, _, _, _, _, _, _, _, _, _, _, _, _, _, _, _, _, _, _, _, _, _, _, _, _, _, _, _, _, _, _, _, _, _, _, _, _, _, _, _, _, _, _, _, _, _, _, _, _, _, _, _, _, _, _, _, _, _, _, _, _, _, _, _, _, _, _, _, _, _, _, _, _, _, _, _, _, _, _]) _
          refine seqd rfl rfl (does_alloc z32) ?_; rintro _ w263 ⟨b259, rfl, hb260, hB261, E262⟩
          have n264 : gr36 < b259 := Nat.lt_of_lt_of_le (RowG.lt (RowG.ext (RowG.ext (RowG.ext (RowG.kl (RowG.ext (RowG.ext (RowG.ext (RowG.kl (RowG.ext hR68 RV3.flat E81) RV3.flat (KpL.of_wr W87) (ninS (Nat.ne_of_lt n83) nin0)) RV3.flat E92) RV3.flat E103) RV3.flat E120) RV3.flat (KpL.of_wr W138) (ninS (Nat.ne_of_lt n134) nin0)) RV3.flat E158) RV3.flat E247) RV3.flat E250)) hb260
          have n265 : b74 < b259 := Nat.lt_of_lt_of_le (cell_lt (Cells.at (((((((((hc77.ext E81).wr W87 (Nat.ne_of_lt n84)).ext E92).ext E103).ext E120).wr W138 (Nat.ne_of_lt n135)).ext E158).ext E247).ext E250) 0 rfl)) hb260
          have n266 : b78 < b259 := Nat.lt_of_lt_of_le (Blk.lt (((((((hB88.ext E92).ext E103).ext E120).wr W138 (Nat.ne_of_lt n136)).ext E158).ext E247).ext E250)) hb260
          have n267 : b131 < b259 := Nat.lt_of_lt_of_le (Blk.lt (((hB139.ext E158).ext E247).ext E250)) hb260
          have g268 : w.heap.size ≤ b259 := Nat.le_trans (Below.size X258) hb260
          change Blk _ _ [(Fl 0), (Fl 0), (Fl 0)] at hB261
          have X269 := Ext.gr X258 E262
          show wpList _ _ _ _ (fr [_, _, _, _, _, _, _, _, _, _, _, _, _, _, _, _, _, _, _, _, _, _, _, _, _, _, _, _, _, _, _, _, _, _, _, _, _, _, _, _, _, _, _, _, _, _, _, _, _, _, _, _, _, _, _, _, _, _, _, _, _, _, _, _, _, _, _, _, _, _, _, _, _, _, _, _, _, _, _, _, _, _, _, _, _, _, _, _, _, _, _, _, _, _, _, _, _, _, _, _, _]) _
          refine seqn rfl rfl (does_store (n := 3) (cs := [(Fl 0), (Fl 0), (Fl 0)]) (u := (.agg #[(Fl r252), (Fl r254), (Fl r256)])) (ev rfl) (ev rfl) Try.sizeOf32 rfl hB261 (Nat.le_of_ble_eq_true rfl) rfl) ?_; rintro _ w272 ⟨rfl, W270, hB271⟩
          change Blk _ _ [(Fl r252), (Fl r254), (Fl r256)] at hB271
          have X273 := Below.wr X269 W270 g268
          refine wpList_nil (hK244 _ _ ?_)
          have n277 : gr36 < w272.heap.size := RowG.lt (RowG.kl (RowG.ext (RowG.ext (RowG.ext (RowG.ext (RowG.kl (RowG.ext (RowG.ext (RowG.ext (RowG.kl (RowG.ext hR68 RV3.flat E81) RV3.flat (KpL.of_wr W87) (ninS (Nat.ne_of_lt n83) nin0)) RV3.flat E92) RV3.flat E103) RV3.flat E120) RV3.flat (KpL.of_wr W138) (ninS (Nat.ne_of_lt n134) nin0)) RV3.flat E158) RV3.flat E247) RV3.flat E250) RV3.flat E262) RV3.flat (KpL.of_wr W270) (ninS (Nat.ne_of_lt n264) nin0))
          refine region_any2 [gr36] [0, 0, 2, 0, 0, 16, 0, 0, 128, 448, 960, 0, 4032, 0, 0, 16384, 57344, 122880, 0, 524224, 1048519, 2097095, 4194303, 8388607] [0] (
            [FactW.pure [] [] [0] true (fun v => v = (.slice (some ⟨gr36, 0, none⟩) L_ctr.length q32)),
              FactW.pure [] [] [0] true (fun v => v = (Pt b78 0)),
              FactW.pure [1] [] [0] true (fun v => v = (Iv el1.1)),
              FactW.pure [] [0] [0] true (fun v => v = (.slice (some ⟨gr36, 0, none⟩) L_ctr.length q32)),
              FactW.pure [] [0] [0] true (fun v => v = (Pt b78 1)),
              FactW.pure [4] [0] [0] true (fun v => v = (Iv el1.2)),
              FactW.pure [] [] [0] true (fun v => v = (.slice (some ⟨gr36, 0, none⟩) L_ctr.length q32)),
              FactW.pure [] [] [0] true (fun v => v = (Pt b78 0)),
              FactW.pure [7] [] [0] true (fun v => v = (Iv el1.1)),
              FactW.pure [6, 8] [] [0] true (fun v => v = (Pt gr36 (el1.1.toNat * 3))),
              FactW.pure [9] [] [0] true (fun v => ∃ cs_1 : List Value, v = (.agg cs_1.toArray) ∧ RV3 w el3 cs_1),
              FactW.pure [] [] [0] true (fun v => v = (.agg #[(Fl r252), (Fl r254), (Fl r256)])),
              FactW.pure [10, 11] [] [0] true (fun v => ∃ cs_1 : List Value, v = (.agg cs_1.toArray) ∧ RV3 w (vsub el3 (vscale (unitF (vsub el2 el3)) (cf .f32 r245))) cs_1),
              FactW.pure [] [] [0] true (fun v => v = (.slice (some ⟨gr36, 0, none⟩) L_ctr.length q32)),
              FactW.pure [] [] [0] true (fun v => v = (Pt b78 1)),
              FactW.pure [14] [] [0] true (fun v => v = (Iv el1.2)),
              FactW.pure [13, 15] [] [0] true (fun v => v = (Pt gr36 (el1.2.toNat * 3))),
              FactW.pure [16] [] [0] true (fun v => ∃ cs_1 : List Value, v = (.agg cs_1.toArray) ∧ RV3 w el2 cs_1),
              FactW.pure [] [] [0] true (fun v => v = (.agg #[(Fl r252), (Fl r254), (Fl r256)])),
              FactW.pure [17, 18] [] [0] true (fun v => ∃ cs_1 : List Value, v = (.agg cs_1.toArray) ∧ RV3 w (vadd el2 (vscale (unitF (vsub el2 el3)) (cf .f32 r245))) cs_1),
              FactW.pure [0, 2] [] [0] true (fun v => v = (Pt gr36 (el1.1.toNat * 3))),
              FactW.mem [20, 12] [] [0] [] true (fun v w' => RowG RV3 3 w' gr36 ((((pairsTo L_ctr.length L_ctr.length).take m).foldl (partB L_rad) (prN L_rad L_ctr k)).set el1.1.toNat (vsub el3 (vscale (unitF (vsub el2 el3)) (cf .f32 r245))))) (by intro v w1 w2 hx h; exact RowG.kl h RV3.flat hx nin0)]) mixed (by kernel_rfl) ?_
          obtain ⟨w274, hw276⟩ : ∃ w', w' = World.drew w272 := ⟨_, rfl⟩; rw [← hw276]; have E275 : Ext w272 w274 := by rw [hw276]; exact Ext.draw _
          clear hw276
          have X278 := Ext.gr X273 E275
          refine RW2_d _ rfl (fun v => by dsimp only [List.set]; try rfl) (fun u hu hF => ?_) (fun v279 => ?_)
          · replace hu : KpL [] _ _ := hu
            clear hF
            refine doesG_un rfl ?_
            refine (does_move (u := (.slice (some ⟨gr36, 0, none⟩) L_ctr.length q32)) (ev rfl)).mono ?_; rintro _ _ ⟨rfl, rfl⟩
            exact ⟨rfl, KpL.refl _ _⟩
          refine RW2_d _ rfl (fun v => by dsimp only [List.set]; try rfl) (fun u hu hF => ?_) (fun v280 => ?_)
          · replace hu : KpL [] _ _ := hu
            clear hF
            refine doesG_un rfl ?_
            refine (does_indexAt_run (r := (Pt b78 0)) (ev rfl) (ev rfl) (fun w => ia91_0 _ _ w)).mono ?_; rintro _ _ ⟨rfl, rfl⟩
            exact ⟨rfl, KpL.refl _ _⟩
          refine RW2_d _ rfl (fun v => by dsimp only [List.set]; try rfl) (fun u hu hF => ?_) (fun v281 => ?_)
          · replace hu : KpL [] _ _ := hu
            have h77_ : v280 = (Pt b78 0) := hF.1
            clear hF
            refine doesG_un rfl ?_
            obtain rfl := h77_
            refine (does_load (u := (Iv el1.1)) (ev rfl) Try.isAgg3 (Cells.at (Blk.cells (((((((((((hB88.ext E92).ext E103).ext E120).wr W138 (Nat.ne_of_lt n136)).ext E158).ext E247).ext E250).ext E262).wr W270 (Nat.ne_of_lt n266)).ext E275).ext (KpL.toExt hu))) 0 rfl)).mono ?_; rintro _ _ ⟨rfl, rfl⟩
            exact ⟨rfl, KpL.refl _ _⟩
          refine RW2_d _ rfl (fun v => by dsimp only [List.set]; try rfl) (fun u hu hF => ?_) (fun v282 => ?_)
          · replace hu : KpL [gr36] _ _ := hu
            clear hF
            refine doesG_un rfl ?_
            refine (does_move (u := (.slice (some ⟨gr36, 0, none⟩) L_ctr.length q32)) (ev rfl)).mono ?_; rintro _ _ ⟨rfl, rfl⟩
            exact ⟨rfl, KpL.refl _ _⟩
          refine RW2_d _ rfl (fun v => by dsimp only [List.set]; try rfl) (fun u hu hF => ?_) (fun v283 => ?_)
          · replace hu : KpL [gr36] _ _ := hu
            clear hF
            refine doesG_un rfl ?_
            refine (does_indexAt_run (r := (Pt b78 1)) (ev rfl) (ev rfl) (fun w => ia91_1 _ _ w)).mono ?_; rintro _ _ ⟨rfl, rfl⟩
            exact ⟨rfl, KpL.refl _ _⟩
          refine RW2_d _ rfl (fun v => by dsimp only [List.set]; try rfl) (fun u hu hF => ?_) (fun v284 => ?_)
          · replace hu : KpL [gr36] _ _ := hu
            have h80_ : v283 = (Pt b78 1) := hF.1
            clear hF
            refine doesG_un rfl ?_
            obtain rfl := h80_
            refine (does_load (u := (Iv el1.2)) (ev rfl) Try.isAgg3 (Cells.at (Blk.cells (((((((((((hB88.ext E92).ext E103).ext E120).wr W138 (Nat.ne_of_lt n136)).ext E158).ext E247).ext E250).ext E262).wr W270 (Nat.ne_of_lt n266)).ext E275).kl hu (ninS (Nat.ne_of_gt n83) nin0))) 1 rfl)).mono ?_; rintro _ _ ⟨rfl, rfl⟩
            exact ⟨rfl, KpL.refl _ _⟩
          refine RW2_d _ rfl (fun v => by dsimp only [List.set]; try rfl) (fun u hu hF => ?_) (fun v285 => ?_)
          · replace hu : KpL [] _ _ := hu
            clear hF
            refine doesG_un rfl ?_
            refine (does_move (u := (.slice (some ⟨gr36, 0, none⟩) L_ctr.length q32)) (ev rfl)).mono ?_; rintro _ _ ⟨rfl, rfl⟩
            exact ⟨rfl, KpL.refl _ _⟩
          refine RW2_d _ rfl (fun v => by dsimp only [List.set]; try rfl) (fun u hu hF => ?_) (fun v286 => ?_)
          · replace hu : KpL [] _ _ := hu
            clear hF
            refine doesG_un rfl ?_
            refine (does_indexAt_run (r := (Pt b78 0)) (ev rfl) (ev rfl) (fun w => ia91_0 _ _ w)).mono ?_; rintro _ _ ⟨rfl, rfl⟩
            exact ⟨rfl, KpL.refl _ _⟩
          refine RW2_d _ rfl (fun v => by dsimp only [List.set]; try rfl) (fun u hu hF => ?_) (fun v287 => ?_)
          · replace hu : KpL [] _ _ := hu
            have h83_ : v286 = (Pt b78 0) := hF.1
            clear hF
            refine doesG_un rfl ?_
            obtain rfl := h83_
            refine (does_load (u := (Iv el1.1)) (ev rfl) Try.isAgg3 (Cells.at (Blk.cells (((((((((((hB88.ext E92).ext E103).ext E120).wr W138 (Nat.ne_of_lt n136)).ext E158).ext E247).ext E250).ext E262).wr W270 (Nat.ne_of_lt n266)).ext E275).ext (KpL.toExt hu))) 0 rfl)).mono ?_; rintro _ _ ⟨rfl, rfl⟩
            exact ⟨rfl, KpL.refl _ _⟩
          refine RW2_d _ rfl (fun v => by dsimp only [List.set]; try rfl) (fun u hu hF => ?_) (fun v288 => ?_)
          · replace hu : KpL [] _ _ := hu
            have h82_ : v285 = (.slice (some ⟨gr36, 0, none⟩) L_ctr.length q32) := hF.1
            have h84_ : v287 = (Iv el1.1) := hF.2.1
            clear hF
            refine doesG_un rfl ?_
            obtain rfl := h82_
            obtain rfl := h84_
            refine (does_indexOwn (b := gr36) (n := L_ctr.length) (i := el1.1) Try.underlying47 Try.sizeOf32 (ev rfl) (ev rfl) (by omega) (by omega)).mono ?_; rintro _ _ ⟨rfl, rfl⟩
            exact ⟨rfl, KpL.refl _ _⟩
          refine RW2_d _ rfl (fun v => by dsimp only [List.set]; try rfl) (fun u hu hF => ?_) (fun v289 => ?_)
          · replace hu : KpL [] _ _ := hu
            have h85_ : v288 = (Pt gr36 (el1.1.toNat * 3)) := hF.1
            clear hF
            refine doesG_un rfl ?_
            obtain rfl := h85_
            refine (does_loadRowG (R := RV3) (k := 3) (xs := (((pairsTo L_ctr.length L_ctr.length).take m).foldl (partB L_rad) (prN L_rad L_ctr k))) (i := el1.1.toNat) (e := el3) (ev rfl) Try.isAgg32 Try.sizeOf32 (RowG.ext (RowG.ext (RowG.kl (RowG.ext (RowG.ext (RowG.ext (RowG.ext (RowG.kl (RowG.ext (RowG.ext (RowG.ext (RowG.kl (RowG.ext hR68 RV3.flat E81) RV3.flat (KpL.of_wr W87) (ninS (Nat.ne_of_lt n83) nin0)) RV3.flat E92) RV3.flat E103) RV3.flat E120) RV3.flat (KpL.of_wr W138) (ninS (Nat.ne_of_lt n134) nin0)) RV3.flat E158) RV3.flat E247) RV3.flat E250) RV3.flat E262) RV3.flat (KpL.of_wr W270) (ninS (Nat.ne_of_lt n264) nin0)) RV3.flat E275) RV3.flat (KpL.toExt hu)) rfl hel3).mono ?_; rintro v u' ⟨hx, ⟨csn1, hv, k0⟩⟩
            exact ⟨⟨csn1, hv, k0⟩, (KpL.of_ext hx)⟩
          refine RW2_d _ rfl (fun v => by dsimp only [List.set]; try rfl) (fun u hu hF => ?_) (fun v290 => ?_)
          · replace hu : KpL [] _ _ := hu
            clear hF
            refine doesG_un rfl ?_
            refine (does_loadAgg (cs := [(Fl r252), (Fl r254), (Fl r256)]) (ev rfl) Try.isAgg32 Try.sizeOf32 (Blk.cells ((hB271.ext E275).ext (KpL.toExt hu))) rfl).mono ?_; rintro _ _ ⟨rfl, rfl⟩
            exact ⟨rfl, KpL.refl _ _⟩
          refine RW2_d _ rfl (fun v => by dsimp only [List.set]; try rfl) (fun u hu hF => ?_) (fun v291 => ?_)
          · replace hu : KpL [] _ _ := hu
            have h86_ : ∃ cs_1 : List Value, v289 = (.agg cs_1.toArray) ∧ RV3 w el3 cs_1 := hF.1
            have h87_ : v290 = (.agg #[(Fl r252), (Fl r254), (Fl r256)]) := hF.2.1
            clear hF
            refine doesG_un rfl ?_
            obtain ⟨_, rfl, ⟨r86_1, r86_3, r86_5, rfl, h86_2, h86_4, h86_6⟩⟩ := h86_
            obtain rfl := h87_
            refine (does_call (args := #[(.agg #[(Fl r86_1), (Fl r86_3), (Fl r86_5)]), (.agg #[(Fl r252), (Fl r254), (Fl r256)])]) cal63 (evs rfl) (c_impl_LessVectors [(Fl r86_1), (Fl r86_3), (Fl r86_5)] el3 [(Fl r252), (Fl r254), (Fl r256)] (vscale (unitF (vsub el2 el3)) (cf .f32 r245)) _ ⟨r86_1, r86_3, r86_5, rfl, (by assumption), (by assumption), (by assumption)⟩ ⟨r252, r254, r256, rfl, h253, h255, h257⟩)).mono ?_; rintro v u' ⟨hx, ⟨csn1, hv, k0⟩⟩
            exact ⟨⟨csn1, hv.trans (by simp only [h86_2, h86_4, h86_6]), (by first | exact k0 | simpa only [h86_2, h86_4, h86_6] using RV3.any (w := w) k0)⟩, (KpL.of_ext hx)⟩
          refine RW2_d _ rfl (fun v => by dsimp only [List.set]; try rfl) (fun u hu hF => ?_) (fun v292 => ?_)
          · replace hu : KpL [] _ _ := hu
            clear hF
            refine doesG_un rfl ?_
            refine (does_move (u := (.slice (some ⟨gr36, 0, none⟩) L_ctr.length q32)) (ev rfl)).mono ?_; rintro _ _ ⟨rfl, rfl⟩
            exact ⟨rfl, KpL.refl _ _⟩
          refine RW2_d _ rfl (fun v => by dsimp only [List.set]; try rfl) (fun u hu hF => ?_) (fun v293 => ?_)
          · replace hu : KpL [] _ _ := hu
            clear hF
            refine doesG_un rfl ?_
            refine (does_indexAt_run (r := (Pt b78 1)) (ev rfl) (ev rfl) (fun w => ia91_1 _ _ w)).mono ?_; rintro _ _ ⟨rfl, rfl⟩
            exact ⟨rfl, KpL.refl _ _⟩
          refine RW2_d _ rfl (fun v => by dsimp only [List.set]; try rfl) (fun u hu hF => ?_) (fun v294 => ?_)
          · replace hu : KpL [] _ _ := hu
            have h90_ : v293 = (Pt b78 1) := hF.1
            clear hF
            refine doesG_un rfl ?_
            obtain rfl := h90_
            refine (does_load (u := (Iv el1.2)) (ev rfl) Try.isAgg3 (Cells.at (Blk.cells (((((((((((hB88.ext E92).ext E103).ext E120).wr W138 (Nat.ne_of_lt n136)).ext E158).ext E247).ext E250).ext E262).wr W270 (Nat.ne_of_lt n266)).ext E275).ext (KpL.toExt hu))) 1 rfl)).mono ?_; rintro _ _ ⟨rfl, rfl⟩
            exact ⟨rfl, KpL.refl _ _⟩
          refine RW2_d _ rfl (fun v => by dsimp only [List.set]; try rfl) (fun u hu hF => ?_) (fun v295 => ?_)
          · replace hu : KpL [] _ _ := hu
            have h89_ : v292 = (.slice (some ⟨gr36, 0, none⟩) L_ctr.length q32) := hF.1
            have h91_ : v294 = (Iv el1.2) := hF.2.1
            clear hF
            refine doesG_un rfl ?_
            obtain rfl := h89_
            obtain rfl := h91_
            refine (does_indexOwn (b := gr36) (n := L_ctr.length) (i := el1.2) Try.underlying47 Try.sizeOf32 (ev rfl) (ev rfl) (by omega) (by omega)).mono ?_; rintro _ _ ⟨rfl, rfl⟩
            exact ⟨rfl, KpL.refl _ _⟩
          refine RW2_d _ rfl (fun v => by dsimp only [List.set]; try rfl) (fun u hu hF => ?_) (fun v296 => ?_)
          · replace hu : KpL [] _ _ := hu
            have h92_ : v295 = (Pt gr36 (el1.2.toNat * 3)) := hF.1
            clear hF
            refine doesG_un rfl ?_
            obtain rfl := h92_
            refine (does_loadRowG (R := RV3) (k := 3) (xs := (((pairsTo L_ctr.length L_ctr.length).take m).foldl (partB L_rad) (prN L_rad L_ctr k))) (i := el1.2.toNat) (e := el2) (ev rfl) Try.isAgg32 Try.sizeOf32 (RowG.ext (RowG.ext (RowG.kl (RowG.ext (RowG.ext (RowG.ext (RowG.ext (RowG.kl (RowG.ext (RowG.ext (RowG.ext (RowG.kl (RowG.ext hR68 RV3.flat E81) RV3.flat (KpL.of_wr W87) (ninS (Nat.ne_of_lt n83) nin0)) RV3.flat E92) RV3.flat E103) RV3.flat E120) RV3.flat (KpL.of_wr W138) (ninS (Nat.ne_of_lt n134) nin0)) RV3.flat E158) RV3.flat E247) RV3.flat E250) RV3.flat E262) RV3.flat (KpL.of_wr W270) (ninS (Nat.ne_of_lt n264) nin0)) RV3.flat E275) RV3.flat (KpL.toExt hu)) rfl hel2).mono ?_; rintro v u' ⟨hx, ⟨csn1, hv, k0⟩⟩
            exact ⟨⟨csn1, hv, k0⟩, (KpL.of_ext hx)⟩
          refine RW2_d _ rfl (fun v => by dsimp only [List.set]; try rfl) (fun u hu hF => ?_) (fun v297 => ?_)
          · replace hu : KpL [] _ _ := hu
            clear hF
            refine doesG_un rfl ?_
            refine (does_loadAgg (cs := [(Fl r252), (Fl r254), (Fl r256)]) (ev rfl) Try.isAgg32 Try.sizeOf32 (Blk.cells ((hB271.ext E275).ext (KpL.toExt hu))) rfl).mono ?_; rintro _ _ ⟨rfl, rfl⟩
            exact ⟨rfl, KpL.refl _ _⟩
          refine RW2_d _ rfl (fun v => by dsimp only [List.set]; try rfl) (fun u hu hF => ?_) (fun v298 => ?_)
          · replace hu : KpL [] _ _ := hu
            have h93_ : ∃ cs_1 : List Value, v296 = (.agg cs_1.toArray) ∧ RV3 w el2 cs_1 := hF.1
            have h94_ : v297 = (.agg #[(Fl r252), (Fl r254), (Fl r256)]) := hF.2.1
            clear hF
            refine doesG_un rfl ?_
            obtain ⟨_, rfl, ⟨r93_1, r93_3, r93_5, rfl, h93_2, h93_4, h93_6⟩⟩ := h93_
            obtain rfl := h94_
            refine (does_call (args := #[(.agg #[(Fl r93_1), (Fl r93_3), (Fl r93_5)]), (.agg #[(Fl r252), (Fl r254), (Fl r256)])]) cal65 (evs rfl) (c_impl_AddVectors [(Fl r93_1), (Fl r93_3), (Fl r93_5)] el2 [(Fl r252), (Fl r254), (Fl r256)] (vscale (unitF (vsub el2 el3)) (cf .f32 r245)) _ ⟨r93_1, r93_3, r93_5, rfl, (by assumption), (by assumption), (by assumption)⟩ ⟨r252, r254, r256, rfl, h253, h255, h257⟩)).mono ?_; rintro v u' ⟨hx, ⟨csn1, hv, k0⟩⟩
            exact ⟨⟨csn1, hv.trans (by simp only [h93_2, h93_4, h93_6]), (by first | exact k0 | simpa only [h93_2, h93_4, h93_6] using RV3.any (w := w) k0)⟩, (KpL.of_ext hx)⟩
          refine RW2_d _ rfl (fun v => by dsimp only [List.set]; try rfl) (fun u hu hF => ?_) (fun v299 => ?_)
          · replace hu : KpL [] _ _ := hu
            have h76_ : v279 = (.slice (some ⟨gr36, 0, none⟩) L_ctr.length q32) := hF.1
            have h78_ : v281 = (Iv el1.1) := hF.2.1
            clear hF
            refine doesG_un rfl ?_
            obtain rfl := h76_
            obtain rfl := h78_
            refine (does_indexOwn (b := gr36) (n := L_ctr.length) (i := el1.1) Try.underlying47 Try.sizeOf32 (ev rfl) (ev rfl) (by omega) (by omega)).mono ?_; rintro _ _ ⟨rfl, rfl⟩
            exact ⟨rfl, KpL.refl _ _⟩
          refine RW2_n rfl (fun u hu hF => ?_) (fun v300 => ?_)
          · replace hu : KpL [] _ _ := hu
            have h96_ : v299 = (Pt gr36 (el1.1.toNat * 3)) := hF.1
            have h88_ : ∃ cs_1 : List Value, v291 = (.agg cs_1.toArray) ∧ RV3 w (vsub el3 (vscale (unitF (vsub el2 el3)) (cf .f32 r245))) cs_1 := hF.2.1
            clear hF
            refine doesG_un rfl ?_
            obtain rfl := h96_
            obtain ⟨_, rfl, ⟨r88_1, r88_3, r88_5, rfl, h88_2, h88_4, h88_6⟩⟩ := h88_
            refine (does_storeRowG (R := RV3) (k := 3) (xs := (((pairsTo L_ctr.length L_ctr.length).take m).foldl (partB L_rad) (prN L_rad L_ctr k))) (i := el1.1.toNat) (u := (.agg #[(Fl r88_1), (Fl r88_3), (Fl r88_5)])) (e := (vsub el3 (vscale (unitF (vsub el2 el3)) (cf .f32 r245)))) (ev rfl) (ev rfl) Try.sizeOf32 rfl rfl RV3.flat (RowG.ext (RowG.ext (RowG.kl (RowG.ext (RowG.ext (RowG.ext (RowG.ext (RowG.kl (RowG.ext (RowG.ext (RowG.ext (RowG.kl (RowG.ext hR68 RV3.flat E81) RV3.flat (KpL.of_wr W87) (ninS (Nat.ne_of_lt n83) nin0)) RV3.flat E92) RV3.flat E103) RV3.flat E120) RV3.flat (KpL.of_wr W138) (ninS (Nat.ne_of_lt n134) nin0)) RV3.flat E158) RV3.flat E247) RV3.flat E250) RV3.flat E262) RV3.flat (KpL.of_wr W270) (ninS (Nat.ne_of_lt n264) nin0)) RV3.flat E275) RV3.flat (KpL.toExt hu)) rfl (by first | assumption | omega | (simp only [foldP_len, prN_len, List.length_set, List.length_replicate]; omega) | (simp only [foldP_len, prN_len, List.length_set, List.length_replicate]; done)) ⟨r88_1, r88_3, r88_5, rfl, (by assumption), (by assumption), (by assumption)⟩).mono ?_; rintro _ _ ⟨rfl, hW, hB⟩
            exact ⟨hB, KpL.of_wr hW⟩
          refine RW2_fin ?_; intro w301 E302 hP303; replace E302 : KpL [gr36] _ _ := E302
          obtain ⟨⟨⟨⟨⟨⟨⟨⟨⟨⟨⟨⟨⟨⟨⟨⟨⟨⟨⟨⟨⟨⟨-, -⟩, -⟩, -⟩, q304⟩, -⟩, q305⟩, -⟩, -⟩, -⟩, -⟩, -⟩, -⟩, -⟩, -⟩, -⟩, -⟩, -⟩, -⟩, -⟩, q306⟩, -⟩, q307⟩ := hP303
          have X308 := Below.kl X278 E302 (allS g42 all0) (Nat.le_refl _)
          have hB309 := q307 rfl
          have q304 : v282 = (.slice (some ⟨gr36, 0, none⟩) L_ctr.length q32) := q304 rfl
          obtain rfl := q304
          have q305 : v284 = (Iv el1.2) := q305 rfl
          obtain rfl := q305
          have q306 : ∃ cs_1 : List Value, v298 = (.agg cs_1.toArray) ∧ RV3 w (vadd el2 (vscale (unitF (vsub el2 el3)) (cf .f32 r245))) cs_1 := q306 rfl
          obtain ⟨_, rfl, ⟨r310, r312, r314, rfl, h311, h313, h315⟩⟩ := q306
          show wpList _ _ _ _ (fr [_, _, _, _, _, _, _, _, _, _, _, _, _, _, _, _, _, _, _, _, _, _, _, _, _, _, _, _, _, _, _, _, _, _, _, _, _, _, _, _, _, _, _, _, _, _, _, _, _, _, _, _, _, _, _, _, _, _, _, _, _, _, _, _, _, _, _, _, _, _, _, _, _, _, _, _, _, _, _, _, _, _, _, _, _, _, _, _, _, _, _, _, _, _, _, _, _, _, _, _, _]) _
          refine q_is rfl rfl (does_indexOwn (b := gr36) (n := L_ctr.length) (i := el1.2) Try.underlying47 Try.sizeOf32 (ev rfl) (ev rfl) (by omega) (by omega)) (by dsimp only [List.set]; try rfl) ?_
          refine seqn rfl rfl (does_storeRowG (R := RV3) (k := 3) (xs := ((((pairsTo L_ctr.length L_ctr.length).take m).foldl (partB L_rad) (prN L_rad L_ctr k)).set el1.1.toNat (vsub el3 (vscale (unitF (vsub el2 el3)) (cf .f32 r245))))) (i := el1.2.toNat) (u := (.agg #[(Fl r310), (Fl r312), (Fl r314)])) (e := (vadd el2 (vscale (unitF (vsub el2 el3)) (cf .f32 r245)))) (ev rfl) (ev rfl) Try.sizeOf32 rfl rfl RV3.flat hB309 rfl (by first | assumption | omega | (simp only [foldP_len, prN_len, List.length_set, List.length_replicate]; omega) | (simp only [foldP_len, prN_len, List.length_set, List.length_replicate]; done)) ⟨r310, r312, r314, rfl, h311, h313, h315⟩) ?_; rintro _ w318 ⟨rfl, W316, hR317⟩
          have X319 := Below.wr X308 W316 g42
          refine wpList_nil (hK72 _ _ ?_)
          refine wp_region_lit ?_
          refine q_is rfl rfl (does_iarith (p := (m : Int)) (q := 1) (r := (m : Int) + 1) (ev rfl) (ev rfl) (.inl ⟨rfl, (in_i64 (by omega) (by omega)).symm⟩)) (by dsimp only [List.set]; try rfl) ?_
          refine q_is rfl rfl (does_move (u := (Iv ((m : Int) + 1))) (ev rfl)) (by dsimp only [List.set]; try rfl) ?_
          refine wpList_nil ?_
          have hR320 := RowG.cast (ys := ((fun (m : Nat) => ((pairsTo L_ctr.length L_ctr.length).take m).foldl (partB L_rad) (prN L_rad L_ctr k)) (m + 1))) hR317 (by (try dsimp only); rw [fold_take hel1]; first | exact (partB_f hxg).symm | exact partB_t hxg hel3 hel2 (by first | (rw [wayB_n hzv]; simp only [halfF, hβ1, hel1, h95, hel2, hel3, h126, h128, h130, hβ2, hβ3, hβ4, h246, h253, h255, h257, h311, h313, h315]; done) | (rw [wayB_z hzv]; simp only [halfF, hβ1, hel1, h95, hel2, hel3, h126, h128, h130, hβ2, hβ3, hβ4, h246, h253, h255, h257, h311, h313, h315]; done)))
          refine ⟨m + 1, ⟨fun t => (([(.slice p_ctr L_ctr.length q_ctr), (.slice p_rad L_rad.length q_rad), (Iv rnd), Ud, Ud, Ud, (.slice none 0 0), (Bo false), (.slice (some ⟨gr36, 0, none⟩) L_ctr.length q32), Ud, (Pt b78 0), (Fl r94), (Pt b131 0), (Pt b259 0), v4, v5, v6, v7, v8, v9, v10, v11, (Bo β1), (.slice p_ctr L_ctr.length q_ctr), (.slice (some ⟨gr36, 0, none⟩) L_ctr.length q32), (Iv rnd), (Iv (k : Int)), (Bo (icmp .lss (k : Int) rnd)), (.slice (some ⟨gr36, 0, none⟩) L_ctr.length q32), (Iv (L_ctr.length : Int)), (.slice p61 ((pairsTo L_ctr.length L_ctr.length).length) q62), (Iv (((pairsTo L_ctr.length L_ctr.length).length) : Int)), (Iv ((m : Int) + 1)), (Bo (icmp .lss (m : Int) (((pairsTo L_ctr.length L_ctr.length).length) : Int))), (Pt b74 o75), (.agg #[(Iv el1.1), (Iv el1.2)]), (.slice (some ⟨gr36, 0, none⟩) L_ctr.length q32), (.slice p_rad L_rad.length q_rad), (Pt b78 0), (Iv el1.1), (Pt b78 1), (Iv el1.2), (Fl r94), (Fl r94), (Bo (fcmp .gtr (ford .f32 (cf .f32 r94) (cf .f32 0)))), (Bo (!(fcmp .gtr (ford .f32 (cf .f32 r94) (cf .f32 0))))), v106, v107, v108, v109, v110, v111, v112, v113, v114, v115, v116, (.agg #[(Fl r125), (Fl r127), (Fl r129)]), v144, v145, v146, v147, v148, v149, v150, v151, v152, v153, v154, v155, (Bo ((β2 && β3) && β4)), (u63 71), (.agg #[(Fl r125), (Fl r127), (Fl r129)]), (Fl r94), (Fl r245), (.agg #[(Fl r252), (Fl r254), (Fl r256)]), v279, v280, v281, (.slice (some ⟨gr36, 0, none⟩) L_ctr.length q32), v283, (Iv el1.2), v285, v286, v287, v288, v289, v290, v291, v292, v293, v294, v295, v296, v297, (.agg #[(Fl r310), (Fl r312), (Fl r314)]), v299, (Pt gr36 (el1.2.toNat * 3)), (Iv ((m : Int) + 1)), (u44 99), Ud] : List Value)[t]?).getD undef, ?_, (KpL.more (KpL.more (KpL.ext (KpL.more (KpL.ext (KpL.ext (KpL.ext (KpL.ext (KpL.more (KpL.ext (KpL.ext (KpL.ext (KpL.more (KpL.ext E65 E81) (KpL.of_wr W87) (allS (.inr (Nat.le_trans E65.size hb79)) all0)) E92) E103) E120) (KpL.of_wr W138) (allS (.inr (Nat.le_trans (KpL.ext (KpL.more (KpL.ext E65 E81) (KpL.of_wr W87) (allS (.inr (Nat.le_trans E65.size hb79)) all0)) E92).size hb132)) all0)) E158) E247) E250) E262) (KpL.of_wr W270) (allS (.inr (Nat.le_trans (KpL.ext (KpL.ext (KpL.ext (KpL.more (KpL.ext (KpL.ext (KpL.ext (KpL.more (KpL.ext E65 E81) (KpL.of_wr W87) (allS (.inr (Nat.le_trans E65.size hb79)) all0)) E92) E103) E120) (KpL.of_wr W138) (allS (.inr (Nat.le_trans (KpL.ext (KpL.more (KpL.ext E65 E81) (KpL.of_wr W87) (allS (.inr (Nat.le_trans E65.size hb79)) all0)) E92).size hb132)) all0)) E158) E247) E250).size hb260)) all0)) E275) E302 (allS (.inl (by simp)) all0)) (KpL.of_wr W316) (allS (.inl (by simp)) all0)), hR320, ?_⟩, ?_⟩
          · first | rfl | (simp only [Nat.cast_add, Nat.cast_one, Int.natCast_add, Int.natCast_one]; rfl)
          · (try dsimp only); omega
          · (try dsimp only); omega
        have c71' := c71
        (try simp only [hβ1] at c71')
        (try simp only [icmp, Bool.and_eq_true, Bool.or_eq_true, Bool.and_eq_false_iff, Bool.or_eq_false_iff, Bool.not_eq_true', Bool.not_eq_false', decide_eq_true_eq, decide_eq_false_iff_not, beq_iff_eq, bne_iff_ne, beq_eq_false_iff_ne, bne_eq_false_iff_eq] at c71')
        refine wp_exit ?_
        refine hK53 _ _ ?_
        refine wp_region_lit ?_
        refine q_is rfl rfl (does_iarith (p := (k : Int)) (q := 1) (r := (k : Int) + 1) (ev rfl) (ev rfl) (.inl ⟨rfl, (in_i64 (by omega) (by omega)).symm⟩)) (by dsimp only [List.set]; try rfl) ?_
        refine q_is rfl rfl (does_move (u := (Iv ((k : Int) + 1))) (ev rfl)) (by dsimp only [List.set]; try rfl) ?_
        refine wpList_nil ?_
        have hR321 := RowG.cast (ys := ((fun (k : Nat) => prN L_rad L_ctr k) (k + 1))) hR68 (by (try dsimp only); exact prN_all (by omega))
        refine ⟨k + 1, ⟨fun t => (([(.slice p_ctr L_ctr.length q_ctr), (.slice p_rad L_rad.length q_rad), (Iv rnd), Ud, Ud, Ud, (.slice none 0 0), (Bo false), (.slice (some ⟨gr36, 0, none⟩) L_ctr.length q32), Ud, (u63 10), (u63 11), (u63 12), (u63 13), v4, v5, v6, v7, v8, v9, v10, v11, (Bo β1), (.slice p_ctr L_ctr.length q_ctr), (.slice (some ⟨gr36, 0, none⟩) L_ctr.length q32), (Iv rnd), (Iv ((k : Int) + 1)), (Bo (icmp .lss (k : Int) rnd)), (.slice (some ⟨gr36, 0, none⟩) L_ctr.length q32), (Iv (L_ctr.length : Int)), (.slice p61 ((pairsTo L_ctr.length L_ctr.length).length) q62), (Iv (((pairsTo L_ctr.length L_ctr.length).length) : Int)), (Iv (m : Int)), (Bo (icmp .lss (m : Int) (((pairsTo L_ctr.length L_ctr.length).length) : Int))), (u63 34), (u63 35), (u63 36), (u63 37), (u63 38), (u63 39), (u63 40), (u63 41), (u63 42), (u63 43), (u63 44), (u63 45), (u63 46), (u63 47), (u63 48), (u63 49), (u63 50), (u63 51), (u63 52), (u63 53), (u63 54), (u63 55), (u63 56), (u63 57), (u63 58), (u63 59), (u63 60), (u63 61), (u63 62), (u63 63), (u63 64), (u63 65), (u63 66), (u63 67), (u63 68), (u63 69), (u63 70), (u63 71), (u63 72), (u63 73), (u63 74), (u63 75), (u63 76), (u63 77), (u63 78), (u63 79), (u63 80), (u63 81), (u63 82), (u63 83), (u63 84), (u63 85), (u63 86), (u63 87), (u63 88), (u63 89), (u63 90), (u63 91), (u63 92), (u63 93), (u63 94), (u63 95), (u63 96), (u63 97), (u63 98), (Iv ((k : Int) + 1)), Ud] : List Value)[t]?).getD undef, ?_, (KpL.more (KpL.ext E46 E55) E65 (allS (.inl (by simp)) all0)), hR321, ?_⟩, ?_⟩
        · first | rfl | (simp only [Nat.cast_add, Nat.cast_one, Int.natCast_add, Int.natCast_one]; rfl)
        · omega
        · omega
    have c52' := c52
    (try simp only [hβ1] at c52')
    (try simp only [icmp, Bool.and_eq_true, Bool.or_eq_true, Bool.and_eq_false_iff, Bool.or_eq_false_iff, Bool.not_eq_true', Bool.not_eq_false', decide_eq_true_eq, decide_eq_false_iff_not, beq_iff_eq, bne_iff_ne, beq_eq_false_iff_ne, bne_eq_false_iff_eq] at c52')
    refine wp_exit ?_
    refine hK34 _ _ ?_
    refine wp_seq_k fun K322 hK322 => ?_
    refine wp_region_lit ?_
    refine q_is rfl rfl (does_move (u := (.slice (some ⟨gr36, 0, none⟩) L_ctr.length q32)) (ev rfl)) (by dsimp only [List.set]; try rfl) ?_
    refine q_is rfl rfl (does_assign (u := (.slice (some ⟨gr36, 0, none⟩) L_ctr.length q32)) (ev rfl)) (by dsimp only [List.set]; try rfl) ?_
    refine q_is rfl rfl (does_assign (u := (Bo true)) (ev rfl)) (by dsimp only [List.set]; try rfl) ?_
    refine wpList_nil (hK322 _ _ ?_)
    refine wp_ret ?_
    refine ret_val (v := (.tuple #[(.slice (some ⟨gr36, 0, none⟩) L_ctr.length q32), (Bo true)])) (res_TT rfl (slot rfl) (slot rfl)) X48 ?_
    try simp only [hβ1] at c18 c52
    have x323 : (ptOk L_ctr L_rad rnd) = true := by first | exact hpf | exact hpt | (rw [ptL_f hpf] <;> rfl) | (rw [ptL_t (k := k) hpt hk (by omega)] <;> first | rfl | assumption)
    have x324 : (prN L_rad L_ctr k) = (ptL L_ctr L_rad rnd) := by first | exact hpf | exact hpt | (rw [ptL_f hpf] <;> rfl) | (rw [ptL_t (k := k) hpt hk (by omega)] <;> first | rfl | assumption)
    have x325 : (prN L_rad L_ctr k) = (ptL L_ctr L_rad rnd) := by first | exact hpf | exact hpt | (rw [ptL_f hpf] <;> rfl) | (rw [ptL_t (k := k) hpt hk (by omega)] <;> first | rfl | assumption)
    exact ⟨(.slice (some ⟨gr36, 0, none⟩) L_ctr.length q32), [gr36], (by first | with_reducible rfl | rw [x323] | rfl), (Hang.castL (RowG.hang hR49 RV3.flat (by first | assumption | omega | (simp only [foldP_len, prN_len, List.length_set, List.length_replicate]; omega) | (simp only [foldP_len, prN_len, List.length_set, List.length_replicate]; done)) g42 hcap40 (by omega) (by decide)) x324), (WL.cast (WL.cast (RowG.wl hR49 (by first | assumption | omega | (simp only [foldP_len, prN_len, List.length_set, List.length_replicate]; omega) | (simp only [foldP_len, prN_len, List.length_set, List.length_replicate]; done)) g42 hcap40) (by first | rfl | (symm; first | assumption | omega | (simp only [foldP_len, prN_len, List.length_set, List.length_replicate]; omega) | (simp only [foldP_len, prN_len, List.length_set, List.length_replicate]; done)))) (congrArg List.length x325))⟩

/- laws.sameFloat -/
theorem c_laws_sameFloat (x : Nat) (y : Nat) (w : World) : Gives Try.prog 40 #[(Fd x), (Fd y)] w (fun v w' => v = (Bo (sameF (cf .f64 x) (cf .f64 y)))) := by
  refine enter [(Fd x), (Fd y), Ud, Ud, Ud, Ud, Ud, Ud, Ud, Ud, Ud, Ud, Ud, Ud, Ud, Ud, Ud, Ud, Ud, Ud, Ud, Ud, Ud, Ud, Ud, Ud, Ud, Ud, Ud, Ud, Ud, Ud, Ud, Ud, Ud, Ud, Ud] Try.func40 rfl Try.ntmps40 rfl ?_
  refine wp_seq_k fun K1 hK1 => ?_
  refine wp_region_lit ?_
  refine q_is rfl rfl (does_assign (u := (Bo false)) (ev rfl)) (by dsimp only [List.set]; try rfl) ?_
  refine wpList_nil (hK1 _ _ ?_)
  refine wp_seq_k fun K2 hK2 => ?_
  refine wp_seq_k fun K3 hK3 => ?_
  obtain ⟨β1, hβ1⟩ : ∃ b : Bool, b = (fcmp .neq (ford .f64 (cf .f64 x) (cf .f64 x))) := ⟨_, rfl⟩
  obtain ⟨β2, hβ2⟩ : ∃ b : Bool, b = (fcmp .neq (ford .f64 (cf .f64 y) (cf .f64 y))) := ⟨_, rfl⟩
  refine region_text (
    [Fact.pure [] (fun v => v = (Fd x)),
    Fact.pure [] (fun v => v = (Fd x)),
    Fact.pure [5, 6] (fun v => v = (Bo β1)),
    Fact.pure [7] (fun v => v = (Bo β1)),
    Fact.pure [8] (fun v => β1 = false → v = (Fd y)),
    Fact.pure [8] (fun v => β1 = false → v = (Fd y)),
    Fact.pure [9, 10, 8] (fun v => β1 = false → v = (Bo β2)),
    Fact.pure [8, 11] (fun v => v = (Bo (β1 || β2)))]) (by simp [Fact.pure, Fact.mem]) ?_
  refine RW_d _ rfl (fun v => by dsimp only [List.set]; try rfl) (fun u hu hF => ?_) (fun v4 => ?_)
  · clear hF
    refine doesG_un rfl ?_
    refine (does_move (u := (Fd x)) (ev rfl)).mono ?_; rintro _ _ ⟨rfl, rfl⟩
    exact ⟨rfl, Ext.refl _⟩
  refine RW_d _ rfl (fun v => by dsimp only [List.set]; try rfl) (fun u hu hF => ?_) (fun v5 => ?_)
  · clear hF
    refine doesG_un rfl ?_
    refine (does_move (u := (Fd x)) (ev rfl)).mono ?_; rintro _ _ ⟨rfl, rfl⟩
    exact ⟨rfl, Ext.refl _⟩
  refine RW_d _ rfl (fun v => by dsimp only [List.set]; try rfl) (fun u hu hF => ?_) (fun v6 => ?_)
  · have h5_ : v4 = (Fd x) := hF.1
    have h6_ : v5 = (Fd x) := hF.2.1
    clear hF
    refine doesG_un rfl ?_
    obtain rfl := h5_
    obtain rfl := h6_
    refine (does_fcmp (.inr (.inl rfl)) (ev rfl) (ev rfl)).mono ?_; rintro _ _ ⟨rfl, rfl⟩
    exact ⟨(by first | rfl | (show _ = _; simp only [hβ1]; done) | (show _ = _; simp only [hβ1]; rfl)), Ext.refl _⟩
  refine RW_d _ rfl (fun v => by dsimp only [List.set]; try rfl) (fun u hu hF => ?_) (fun v7 => ?_)
  · have h7_ : v6 = (Bo β1) := hF.1
    clear hF
    refine doesG_un rfl ?_
    obtain rfl := h7_
    refine (does_move (u := (Bo β1)) (ev rfl)).mono ?_; rintro _ _ ⟨rfl, rfl⟩
    exact ⟨rfl, Ext.refl _⟩
  refine RW_d _ rfl (fun v => by dsimp only [List.set]; try rfl) (fun u hu hF => ?_) (fun v8 => ?_)
  · have h8_ : v7 = (Bo β1) := hF.1
    clear hF
    obtain rfl := h8_
    refine doesG_g (b := β1) rfl (yld rfl rfl) (fun hg1 => ?_) (fun hc => ⟨fun hg1 => absurd hg1 hc, Ext.refl _⟩)
    refine (does_move (u := (Fd y)) (ev rfl)).mono ?_; rintro _ _ ⟨rfl, rfl⟩
    exact ⟨fun _ => rfl, Ext.refl _⟩
  refine RW_d _ rfl (fun v => by dsimp only [List.set]; try rfl) (fun u hu hF => ?_) (fun v9 => ?_)
  · have h8_ : v7 = (Bo β1) := hF.1
    clear hF
    obtain rfl := h8_
    refine doesG_g (b := β1) rfl (yld rfl rfl) (fun hg1 => ?_) (fun hc => ⟨fun hg1 => absurd hg1 hc, Ext.refl _⟩)
    refine (does_move (u := (Fd y)) (ev rfl)).mono ?_; rintro _ _ ⟨rfl, rfl⟩
    exact ⟨fun _ => rfl, Ext.refl _⟩
  refine RW_d _ rfl (fun v => by dsimp only [List.set]; try rfl) (fun u hu hF => ?_) (fun v10 => ?_)
  · have h9_ : β1 = false → v8 = (Fd y) := hF.1
    have h10_ : β1 = false → v9 = (Fd y) := hF.2.1
    have h8_ : v7 = (Bo β1) := hF.2.2.1
    clear hF
    obtain rfl := h8_
    refine doesG_g (b := β1) rfl (yld rfl rfl) (fun hg1 => ?_) (fun hc => ⟨fun hg1 => absurd hg1 hc, Ext.refl _⟩)
    obtain rfl := h9_ hg1
    obtain rfl := h10_ hg1
    refine (does_fcmp (.inr (.inl rfl)) (ev rfl) (ev rfl)).mono ?_; rintro _ _ ⟨rfl, rfl⟩
    exact ⟨fun _ => (by first | rfl | (show _ = _; simp only [hβ2]; done) | (show _ = _; simp only [hβ2]; rfl)), Ext.refl _⟩
  refine RW_d _ rfl (fun v => by dsimp only [List.set]; try rfl) (fun u hu hF => ?_) (fun v11 => ?_)
  · have h8_ : v7 = (Bo β1) := hF.1
    have h11_ : β1 = false → v10 = (Bo β2) := hF.2.1
    clear hF
    refine doesG_un rfl ?_
    skip
    obtain rfl := h8_
    refine (does_pick (b := β1) (u := (Bo true)) (v := v10) (ev rfl) (ev rfl) (ev rfl)).mono ?_; rintro _ _ ⟨rfl, rfl⟩; refine ⟨?_, Ext.refl _⟩; skip
    cases hbb : β1
    all_goals first | (show _ = _; simp only [↓reduceIte, Bool.true_and, Bool.false_and, Bool.true_or, Bool.false_or, Bool.false_eq_true]; done) | (have e_ := h11_ hbb; subst e_; show _ = _; simp only [↓reduceIte, Bool.true_and, Bool.false_and, Bool.true_or, Bool.false_or, Bool.false_eq_true]; done) | rfl | (have e_ := h11_ hbb; subst e_; rfl) | (simp [hbb] at h11_ ⊢; first | done | rfl | (subst h11_; rfl) | simp_all) | (simp [hbb] at h11_ ⊢; done)
  refine RW_fin ?_; intro w12 E13 hP14
  obtain ⟨⟨⟨⟨⟨⟨⟨⟨-, -⟩, -⟩, -⟩, -⟩, -⟩, -⟩, -⟩, q15⟩ := hP14
  have X16 := Ext.gr (Ext.refl w) E13
  have q15 : v11 = (Bo (β1 || β2)) := q15
  obtain rfl := q15
  show wpList _ _ _ _ (fr [_, _, _, _, _, _, _, _, _, _, _, _, _, _, _, _, _, _, _, _, _, _, _, _, _, _, _, _, _, _, _, _, _, _, _, _, _]) _
  refine wpList_nil (hK3 _ _ ?_)
  refine wp_cond_split (t := β1 || β2) (ev rfl) (fun c17 => ?_) (fun c17 => ?_)
  · have c17' := c17
    (try simp only [hβ1, hβ2] at c17')
    (try simp only [icmp, Bool.and_eq_true, Bool.or_eq_true, Bool.and_eq_false_iff, Bool.or_eq_false_iff, Bool.not_eq_true', Bool.not_eq_false', decide_eq_true_eq, decide_eq_false_iff_not, beq_iff_eq, bne_iff_ne, beq_eq_false_iff_ne, bne_eq_false_iff_eq] at c17')
    refine wp_seq_k fun K18 hK18 => ?_
    obtain ⟨β3, hβ3⟩ : ∃ b : Bool, b = (fcmp .neq (ford .f64 (cf .f64 x) (cf .f64 x))) := ⟨_, rfl⟩
    obtain ⟨β4, hβ4⟩ : ∃ b : Bool, b = (fcmp .neq (ford .f64 (cf .f64 y) (cf .f64 y))) := ⟨_, rfl⟩
    refine region_text (
      [Fact.pure [] (fun v => v = (Fd x)),
    Fact.pure [] (fun v => v = (Fd x)),
    Fact.pure [13, 14] (fun v => v = (Bo β3)),
    Fact.pure [15] (fun v => v = (Bo β3)),
    Fact.pure [16] (fun v => β3 = true → v = (Fd y)),
    Fact.pure [16] (fun v => β3 = true → v = (Fd y)),
    Fact.pure [17, 18, 16] (fun v => β3 = true → v = (Bo β4)),
    Fact.pure [16, 19] (fun v => v = (Bo (β3 && β4)))]) (by simp [Fact.pure, Fact.mem]) ?_
    refine RW_d _ rfl (fun v => by dsimp only [List.set]; try rfl) (fun u hu hF => ?_) (fun v19 => ?_)
    · clear hF
      refine doesG_un rfl ?_
      refine (does_move (u := (Fd x)) (ev rfl)).mono ?_; rintro _ _ ⟨rfl, rfl⟩
      exact ⟨rfl, Ext.refl _⟩
    refine RW_d _ rfl (fun v => by dsimp only [List.set]; try rfl) (fun u hu hF => ?_) (fun v20 => ?_)
    · clear hF
      refine doesG_un rfl ?_
      refine (does_move (u := (Fd x)) (ev rfl)).mono ?_; rintro _ _ ⟨rfl, rfl⟩
      exact ⟨rfl, Ext.refl _⟩
    refine RW_d _ rfl (fun v => by dsimp only [List.set]; try rfl) (fun u hu hF => ?_) (fun v21 => ?_)
    · have h13_ : v19 = (Fd x) := hF.1
      have h14_ : v20 = (Fd x) := hF.2.1
      clear hF
      refine doesG_un rfl ?_
      obtain rfl := h13_
      obtain rfl := h14_
      refine (does_fcmp (.inr (.inl rfl)) (ev rfl) (ev rfl)).mono ?_; rintro _ _ ⟨rfl, rfl⟩
      exact ⟨(by first | rfl | (show _ = _; simp only [hβ3]; done) | (show _ = _; simp only [hβ3]; rfl)), Ext.refl _⟩
    refine RW_d _ rfl (fun v => by dsimp only [List.set]; try rfl) (fun u hu hF => ?_) (fun v22 => ?_)
    · have h15_ : v21 = (Bo β3) := hF.1
      clear hF
      refine doesG_un rfl ?_
      obtain rfl := h15_
      refine (does_move (u := (Bo β3)) (ev rfl)).mono ?_; rintro _ _ ⟨rfl, rfl⟩
      exact ⟨rfl, Ext.refl _⟩
    refine RW_d _ rfl (fun v => by dsimp only [List.set]; try rfl) (fun u hu hF => ?_) (fun v23 => ?_)
    · have h16_ : v22 = (Bo β3) := hF.1
      clear hF
      obtain rfl := h16_
      refine doesG_g (b := β3) rfl (yld rfl rfl) (fun hg1 => ?_) (fun hc => ⟨fun hg1 => absurd hg1 hc, Ext.refl _⟩)
      refine (does_move (u := (Fd y)) (ev rfl)).mono ?_; rintro _ _ ⟨rfl, rfl⟩
      exact ⟨fun _ => rfl, Ext.refl _⟩
    refine RW_d _ rfl (fun v => by dsimp only [List.set]; try rfl) (fun u hu hF => ?_) (fun v24 => ?_)
    · have h16_ : v22 = (Bo β3) := hF.1
      clear hF
      obtain rfl := h16_
      refine doesG_g (b := β3) rfl (yld rfl rfl) (fun hg1 => ?_) (fun hc => ⟨fun hg1 => absurd hg1 hc, Ext.refl _⟩)
      refine (does_move (u := (Fd y)) (ev rfl)).mono ?_; rintro _ _ ⟨rfl, rfl⟩
      exact ⟨fun _ => rfl, Ext.refl _⟩
    refine RW_d _ rfl (fun v => by dsimp only [List.set]; try rfl) (fun u hu hF => ?_) (fun v25 => ?_)
    · have h17_ : β3 = true → v23 = (Fd y) := hF.1
      have h18_ : β3 = true → v24 = (Fd y) := hF.2.1
      have h16_ : v22 = (Bo β3) := hF.2.2.1
      clear hF
      obtain rfl := h16_
      refine doesG_g (b := β3) rfl (yld rfl rfl) (fun hg1 => ?_) (fun hc => ⟨fun hg1 => absurd hg1 hc, Ext.refl _⟩)
      obtain rfl := h17_ hg1
      obtain rfl := h18_ hg1
      refine (does_fcmp (.inr (.inl rfl)) (ev rfl) (ev rfl)).mono ?_; rintro _ _ ⟨rfl, rfl⟩
      exact ⟨fun _ => (by first | rfl | (show _ = _; simp only [hβ4]; done) | (show _ = _; simp only [hβ4]; rfl)), Ext.refl _⟩
    refine RW_d _ rfl (fun v => by dsimp only [List.set]; try rfl) (fun u hu hF => ?_) (fun v26 => ?_)
    · have h16_ : v22 = (Bo β3) := hF.1
      have h19_ : β3 = true → v25 = (Bo β4) := hF.2.1
      clear hF
      refine doesG_un rfl ?_
      skip
      obtain rfl := h16_
      refine (does_pick (b := β3) (u := v25) (v := (Bo false)) (ev rfl) (ev rfl) (ev rfl)).mono ?_; rintro _ _ ⟨rfl, rfl⟩; refine ⟨?_, Ext.refl _⟩; skip
      cases hbb : β3
      all_goals first | (show _ = _; simp only [↓reduceIte, Bool.true_and, Bool.false_and, Bool.true_or, Bool.false_or, Bool.false_eq_true]; done) | (have e_ := h19_ hbb; subst e_; show _ = _; simp only [↓reduceIte, Bool.true_and, Bool.false_and, Bool.true_or, Bool.false_or, Bool.false_eq_true]; done) | rfl | (have e_ := h19_ hbb; subst e_; rfl) | (simp [hbb] at h19_ ⊢; first | done | rfl | (subst h19_; rfl) | simp_all) | (simp [hbb] at h19_ ⊢; done)
    refine RW_fin ?_; intro w27 E28 hP29
    obtain ⟨⟨⟨⟨⟨⟨⟨⟨-, -⟩, -⟩, -⟩, -⟩, -⟩, -⟩, -⟩, q30⟩ := hP29
    have X31 := Ext.gr X16 E28
    have q30 : v26 = (Bo (β3 && β4)) := q30
    obtain rfl := q30
    show wpList _ _ _ _ (fr [_, _, _, _, _, _, _, _, _, _, _, _, _, _, _, _, _, _, _, _, _, _, _, _, _, _, _, _, _, _, _, _, _, _, _, _, _]) _
    refine q_is rfl rfl (does_assign (u := (Bo (β3 && β4))) (ev rfl)) (by dsimp only [List.set]; try rfl) ?_
    refine wpList_nil (hK18 _ _ ?_)
    refine wp_ret ?_
    dsimp only [Exit.then, Exit.inBlock]
    refine ret_val (v := (Bo (β3 && β4))) (res_T rfl (slot rfl)) X31 ?_
    try simp only [hβ1, hβ2, hβ3, hβ4] at c17
    have x32 : (sameF (cf .f64 x) (cf .f64 y)) = (β3 && β4) := by first | with_reducible rfl | (simp only [sameF, hβ1, hβ2, hβ3, hβ4, c17]; done) | (simp [sameF, hβ1, hβ2, hβ3, hβ4, c17]; done) | (revert c17; simp +contextual [sameF, hβ1, hβ2, hβ3, hβ4]; done) | (rcases c17' with hh | hh <;> simp only [hh, sameF, hβ1, hβ2, hβ3, hβ4, c17]; done) | (rcases c17' with hh | hh <;> simp_all [sameF]; done) | (rcases c17' with hh | hh | hh <;> simp_all [sameF]; done) | (rcases c17' with hh | hh | hh | hh <;> simp_all [sameF]; done) | (simp_all [sameF]; done) | rfl
    exact (by first | with_reducible rfl | rw [x32] | rfl)
  have c17' := c17
  (try simp only [hβ1, hβ2] at c17')
  (try simp only [icmp, Bool.and_eq_true, Bool.or_eq_true, Bool.and_eq_false_iff, Bool.or_eq_false_iff, Bool.not_eq_true', Bool.not_eq_false', decide_eq_true_eq, decide_eq_false_iff_not, beq_iff_eq, bne_iff_ne, beq_eq_false_iff_ne, bne_eq_false_iff_eq] at c17')
  refine wp_skip (hK2 _ _ ?_)
  refine wp_seq_k fun K33 hK33 => ?_
  refine wp_seq_k fun K34 hK34 => ?_
  obtain ⟨β5, hβ5⟩ : ∃ b : Bool, b = (fcmp .eql (ford .f64 (cf .f64 x) (cf .f64 0))) := ⟨_, rfl⟩
  obtain ⟨β6, hβ6⟩ : ∃ b : Bool, b = (fcmp .eql (ford .f64 (cf .f64 y) (cf .f64 0))) := ⟨_, rfl⟩
  refine region_text (
    [Fact.pure [] (fun v => v = (Fd x)),
    Fact.pure [21] (fun v => v = (Bo β5)),
    Fact.pure [22] (fun v => v = (Bo β5)),
    Fact.pure [23] (fun v => β5 = true → v = (Fd y)),
    Fact.pure [24, 23] (fun v => β5 = true → v = (Bo β6)),
    Fact.pure [23, 25] (fun v => v = (Bo (β5 && β6)))]) (by simp [Fact.pure, Fact.mem]) ?_
  refine RW_d _ rfl (fun v => by dsimp only [List.set]; try rfl) (fun u hu hF => ?_) (fun v35 => ?_)
  · clear hF
    refine doesG_un rfl ?_
    refine (does_move (u := (Fd x)) (ev rfl)).mono ?_; rintro _ _ ⟨rfl, rfl⟩
    exact ⟨rfl, Ext.refl _⟩
  refine RW_d _ rfl (fun v => by dsimp only [List.set]; try rfl) (fun u hu hF => ?_) (fun v36 => ?_)
  · have h21_ : v35 = (Fd x) := hF.1
    clear hF
    refine doesG_un rfl ?_
    obtain rfl := h21_
    refine (does_fcmp (.inl rfl) (ev rfl) (ev rfl)).mono ?_; rintro _ _ ⟨rfl, rfl⟩
    exact ⟨(by first | rfl | (show _ = _; simp only [hβ5]; done) | (show _ = _; simp only [hβ5]; rfl)), Ext.refl _⟩
  refine RW_d _ rfl (fun v => by dsimp only [List.set]; try rfl) (fun u hu hF => ?_) (fun v37 => ?_)
  · have h22_ : v36 = (Bo β5) := hF.1
    clear hF
    refine doesG_un rfl ?_
    obtain rfl := h22_
    refine (does_move (u := (Bo β5)) (ev rfl)).mono ?_; rintro _ _ ⟨rfl, rfl⟩
    exact ⟨rfl, Ext.refl _⟩
  refine RW_d _ rfl (fun v => by dsimp only [List.set]; try rfl) (fun u hu hF => ?_) (fun v38 => ?_)
  · have h23_ : v37 = (Bo β5) := hF.1
    clear hF
    obtain rfl := h23_
    refine doesG_g (b := β5) rfl (yld rfl rfl) (fun hg1 => ?_) (fun hc => ⟨fun hg1 => absurd hg1 hc, Ext.refl _⟩)
    refine (does_move (u := (Fd y)) (ev rfl)).mono ?_; rintro _ _ ⟨rfl, rfl⟩
    exact ⟨fun _ => rfl, Ext.refl _⟩
  refine RW_d _ rfl (fun v => by dsimp only [List.set]; try rfl) (fun u hu hF => ?_) (fun v39 => ?_)
  · have h24_ : β5 = true → v38 = (Fd y) := hF.1
    have h23_ : v37 = (Bo β5) := hF.2.1
    clear hF
    obtain rfl := h23_
    refine doesG_g (b := β5) rfl (yld rfl rfl) (fun hg1 => ?_) (fun hc => ⟨fun hg1 => absurd hg1 hc, Ext.refl _⟩)
    obtain rfl := h24_ hg1
    refine (does_fcmp (.inl rfl) (ev rfl) (ev rfl)).mono ?_; rintro _ _ ⟨rfl, rfl⟩
    exact ⟨fun _ => (by first | rfl | (show _ = _; simp only [hβ6]; done) | (show _ = _; simp only [hβ6]; rfl)), Ext.refl _⟩
  refine RW_d _ rfl (fun v => by dsimp only [List.set]; try rfl) (fun u hu hF => ?_) (fun v40 => ?_)
  · have h23_ : v37 = (Bo β5) := hF.1
    have h25_ : β5 = true → v39 = (Bo β6) := hF.2.1
    clear hF
    refine doesG_un rfl ?_
    skip
    obtain rfl := h23_
    refine (does_pick (b := β5) (u := v39) (v := (Bo false)) (ev rfl) (ev rfl) (ev rfl)).mono ?_; rintro _ _ ⟨rfl, rfl⟩; refine ⟨?_, Ext.refl _⟩; skip
    cases hbb : β5
    all_goals first | (show _ = _; simp only [↓reduceIte, Bool.true_and, Bool.false_and, Bool.true_or, Bool.false_or, Bool.false_eq_true]; done) | (have e_ := h25_ hbb; subst e_; show _ = _; simp only [↓reduceIte, Bool.true_and, Bool.false_and, Bool.true_or, Bool.false_or, Bool.false_eq_true]; done) | rfl | (have e_ := h25_ hbb; subst e_; rfl) | (simp [hbb] at h25_ ⊢; first | done | rfl | (subst h25_; rfl) | simp_all) | (simp [hbb] at h25_ ⊢; done)
  refine RW_fin ?_; intro w41 E42 hP43
  obtain ⟨⟨⟨⟨⟨⟨-, -⟩, -⟩, -⟩, -⟩, -⟩, q44⟩ := hP43
  have X45 := Ext.gr X16 E42
  have q44 : v40 = (Bo (β5 && β6)) := q44
  obtain rfl := q44
  show wpList _ _ _ _ (fr [_, _, _, _, _, _, _, _, _, _, _, _, _, _, _, _, _, _, _, _, _, _, _, _, _, _, _, _, _, _, _, _, _, _, _, _, _]) _
  refine wpList_nil (hK34 _ _ ?_)
  refine wp_cond_split (t := β5 && β6) (ev rfl) (fun c46 => ?_) (fun c46 => ?_)
  · have c46' := c46
    (try simp only [hβ1, hβ2, hβ5, hβ6] at c46')
    (try simp only [icmp, Bool.and_eq_true, Bool.or_eq_true, Bool.and_eq_false_iff, Bool.or_eq_false_iff, Bool.not_eq_true', Bool.not_eq_false', decide_eq_true_eq, decide_eq_false_iff_not, beq_iff_eq, bne_iff_ne, beq_eq_false_iff_ne, bne_eq_false_iff_eq] at c46')
    refine wp_seq_k fun K47 hK47 => ?_
    refine wp_region_lit ?_
    refine q_is rfl rfl (does_move (u := (Fd x)) (ev rfl)) (by dsimp only [List.set]; try rfl) ?_
    refine seqd rfl rfl (does_float (.inr (.inr (.inr rfl))) (ev rfl) (ev rfl)) ?_; rintro _ w51 ⟨r48, rfl, h49, E50⟩
    have X52 := Ext.gr X45 E50
    show wpList _ _ _ _ (fr [_, _, _, _, _, _, _, _, _, _, _, _, _, _, _, _, _, _, _, _, _, _, _, _, _, _, _, _, _, _, _, _, _, _, _, _, _]) _
    refine q_is rfl rfl (does_fcmp (.inr (.inr (.inr (.inr (.inl rfl))))) (ev rfl) (ev rfl)) (by dsimp only [List.set]; try rfl) ?_
    refine q_is rfl rfl (does_move (u := (Fd y)) (ev rfl)) (by dsimp only [List.set]; try rfl) ?_
    refine seqd rfl rfl (does_float (.inr (.inr (.inr rfl))) (ev rfl) (ev rfl)) ?_; rintro _ w56 ⟨r53, rfl, h54, E55⟩
    have X57 := Ext.gr X52 E55
    show wpList _ _ _ _ (fr [_, _, _, _, _, _, _, _, _, _, _, _, _, _, _, _, _, _, _, _, _, _, _, _, _, _, _, _, _, _, _, _, _, _, _, _, _]) _
    refine q_is rfl rfl (does_fcmp (.inr (.inr (.inr (.inr (.inl rfl))))) (ev rfl) (ev rfl)) (by dsimp only [List.set]; try rfl) ?_
    refine q_is rfl rfl (does_beq (p := (fcmp .gtr (ford .f64 (cf .f64 r48) (cf .f64 0)))) (q := (fcmp .gtr (ford .f64 (cf .f64 r53) (cf .f64 0)))) Try.underlying4 (ev rfl) (ev rfl)) (by dsimp only [List.set]; try rfl) ?_
    refine q_is rfl rfl (does_assign (u := (Bo ((fcmp .gtr (ford .f64 (cf .f64 r48) (cf .f64 0))) == (fcmp .gtr (ford .f64 (cf .f64 r53) (cf .f64 0)))))) (ev rfl)) (by dsimp only [List.set]; try rfl) ?_
    refine wpList_nil (hK47 _ _ ?_)
    refine wp_ret ?_
    dsimp only [Exit.then, Exit.inBlock]
    refine ret_val (v := (Bo ((fcmp .gtr (ford .f64 (cf .f64 r48) (cf .f64 0))) == (fcmp .gtr (ford .f64 (cf .f64 r53) (cf .f64 0)))))) (res_T rfl (slot rfl)) X57 ?_
    try simp only [hβ1, hβ2, hβ5, hβ6, h49, h54] at c17 c46
    have x58 : (sameF (cf .f64 x) (cf .f64 y)) = ((fcmp .gtr (ford .f64 (cf .f64 r48) (cf .f64 0))) == (fcmp .gtr (ford .f64 (cf .f64 r53) (cf .f64 0)))) := by first | with_reducible rfl | (simp only [sameF, hβ1, hβ2, hβ5, hβ6, h49, h54, c17, c46]; done) | (simp [sameF, hβ1, hβ2, hβ5, hβ6, h49, h54, c17, c46]; done) | (revert c17 c46; simp +contextual [sameF, hβ1, hβ2, hβ5, hβ6, h49, h54]; done) | (rcases c17' with hh | hh <;> simp only [hh, sameF, hβ1, hβ2, hβ5, hβ6, h49, h54, c17, c46]; done) | (rcases c46' with hh | hh <;> simp only [hh, sameF, hβ1, hβ2, hβ5, hβ6, h49, h54, c17, c46]; done) | (rcases c46' with hh | hh <;> simp_all [sameF]; done) | (rcases c46' with hh | hh | hh <;> simp_all [sameF]; done) | (rcases c46' with hh | hh | hh | hh <;> simp_all [sameF]; done) | (simp_all [sameF]; done) | rfl
    exact (by first | with_reducible rfl | rw [x58] | rfl)
  have c46' := c46
  (try simp only [hβ1, hβ2, hβ5, hβ6] at c46')
  (try simp only [icmp, Bool.and_eq_true, Bool.or_eq_true, Bool.and_eq_false_iff, Bool.or_eq_false_iff, Bool.not_eq_true', Bool.not_eq_false', decide_eq_true_eq, decide_eq_false_iff_not, beq_iff_eq, bne_iff_ne, beq_eq_false_iff_ne, bne_eq_false_iff_eq] at c46')
  refine wp_skip (hK33 _ _ ?_)
  refine wp_seq_k fun K59 hK59 => ?_
  refine wp_region_lit ?_
  refine q_is rfl rfl (does_move (u := (Fd x)) (ev rfl)) (by dsimp only [List.set]; try rfl) ?_
  refine q_is rfl rfl (does_move (u := (Fd y)) (ev rfl)) (by dsimp only [List.set]; try rfl) ?_
  refine q_is rfl rfl (does_fcmp (.inl rfl) (ev rfl) (ev rfl)) (by dsimp only [List.set]; try rfl) ?_
  refine q_is rfl rfl (does_assign (u := (Bo (fcmp .eql (ford .f64 (cf .f64 x) (cf .f64 y))))) (ev rfl)) (by dsimp only [List.set]; try rfl) ?_
  refine wpList_nil (hK59 _ _ ?_)
  refine wp_ret ?_
  refine ret_val (v := (Bo (fcmp .eql (ford .f64 (cf .f64 x) (cf .f64 y))))) (res_T rfl (slot rfl)) X45 ?_
  try simp only [hβ1, hβ2, hβ5, hβ6] at c17 c46
  have x60 : (sameF (cf .f64 x) (cf .f64 y)) = (fcmp .eql (ford .f64 (cf .f64 x) (cf .f64 y))) := by first | with_reducible rfl | (simp only [sameF, hβ1, hβ2, hβ5, hβ6, c17, c46]; done) | (simp [sameF, hβ1, hβ2, hβ5, hβ6, c17, c46]; done) | (revert c17 c46; simp +contextual [sameF, hβ1, hβ2, hβ5, hβ6]; done) | (rcases c17' with hh | hh <;> simp only [hh, sameF, hβ1, hβ2, hβ5, hβ6, c17, c46]; done) | (rcases c46' with hh | hh <;> simp only [hh, sameF, hβ1, hβ2, hβ5, hβ6, c17, c46]; done) | (rcases c46' with hh | hh <;> simp_all [sameF]; done) | (rcases c46' with hh | hh | hh <;> simp_all [sameF]; done) | (rcases c46' with hh | hh | hh | hh <;> simp_all [sameF]; done) | (simp_all [sameF]; done) | rfl
  exact (by first | with_reducible rfl | rw [x60] | rfl)

end Go.Proofs.Ytcmcooabaglbpaa
