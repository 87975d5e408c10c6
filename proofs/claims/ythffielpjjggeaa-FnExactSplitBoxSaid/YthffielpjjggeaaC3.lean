/- contracts of functions, each walked once -/
import Derived.Test.YthffielpjjggeaaC2
namespace Go.Proofs.Ythffielpjjggeaa
open Go Go.RowKit
set_option maxRecDepth 100000
set_option maxHeartbeats 3200000
set_option linter.unusedVariables false
set_option linter.unusedSimpArgs false

/- slices.IndexFunc[[]float32,float32] -/
theorem c_slices_IndexFunc_float32_float32 (xs : Value) (L_xs : List Nat) (f : Value) (pr_f : Nat → Bool) (w : World) (hv_xs : Sl RF 1 w xs L_xs) (hv_f : TellsF Try.prog f w pr_f) : Gives Try.prog 25 #[xs, f] w (fun v w' => v = (Iv (findI pr_f L_xs))) := by
  have hlen_xs := Sl.len hv_xs; obtain ⟨p_xs, q_xs, rfl⟩ := Sl.shape hv_xs
  obtain ⟨f_f, s_f, c_f, rfl, hcal_f, hg_f⟩ := hv_f
  refine enter [(.slice p_xs L_xs.length q_xs), (.func (.func f_f) s_f c_f), Ud, Ud, Ud, Ud, Ud, Ud, Ud, Ud, Ud, Ud, Ud, Ud, Ud, Ud, Ud, Ud, Ud] Try.func25 rfl Try.ntmps25 rfl ?_
  refine wp_seq_k fun K1 hK1 => ?_
  refine wp_region_lit ?_
  refine q_is (l' := [(.slice p_xs L_xs.length q_xs), (.func (.func f_f) s_f c_f), Ud, Ud, (Iv 0), Ud, Ud, Ud, Ud, Ud, Ud, Ud, Ud, Ud, Ud, Ud, Ud, Ud, Ud]) rfl rfl (does_assign (u := (Iv 0)) (ev rfl)) rfl ?_
  refine wpList_nil (hK1 _ _ ?_)
  refine wp_seq_k fun K2 hK2 => ?_
  refine wp_seq_k fun K3 hK3 => ?_
  refine wp_region_lit ?_
  refine q_is (l' := [(.slice p_xs L_xs.length q_xs), (.func (.func f_f) s_f c_f), Ud, Ud, (Iv 0), Ud, (.slice p_xs L_xs.length q_xs), Ud, Ud, Ud, Ud, Ud, Ud, Ud, Ud, Ud, Ud, Ud, Ud]) rfl rfl (does_move (u := (.slice p_xs L_xs.length q_xs)) (ev rfl)) rfl ?_
  refine q_is (l' := [(.slice p_xs L_xs.length q_xs), (.func (.func f_f) s_f c_f), Ud, Ud, (Iv 0), Ud, (.slice p_xs L_xs.length q_xs), (Iv (L_xs.length : Int)), Ud, Ud, Ud, Ud, Ud, Ud, Ud, Ud, Ud, Ud, Ud]) rfl rfl (does_len_slice Try.underlying52 (ev rfl)) rfl ?_
  refine q_is (l' := [(.slice p_xs L_xs.length q_xs), (.func (.func f_f) s_f c_f), Ud, Ud, (Iv 0), Ud, (.slice p_xs L_xs.length q_xs), (Iv (L_xs.length : Int)), (Iv 0), Ud, Ud, Ud, Ud, Ud, Ud, Ud, Ud, Ud, Ud]) rfl rfl (does_move (u := (Iv 0)) (ev rfl)) rfl ?_
  refine wpList_nil (hK3 _ _ ?_)
  refine wp_block ?_
  refine loop_ghost (σ := Nat) (fun k a w' => ∃ u4 : Nat → Value, a = fr [(.slice p_xs L_xs.length q_xs), (.func (.func f_f) s_f c_f), Ud, Ud, (u4 4), (u4 5), (.slice p_xs L_xs.length q_xs), (Iv (L_xs.length : Int)), (Iv (k : Int)), (u4 9), (u4 10), (u4 11), (u4 12), (u4 13), (u4 14), (u4 15), (u4 16), (u4 17), (u4 18)] ∧ Ext w w' ∧ (k ≤ L_xs.length ∧ NoneTo pr_f L_xs k)) (fun k => L_xs.length - k) 0 ?_ ?_
  · refine ⟨fun t => (([(.slice p_xs L_xs.length q_xs), (.func (.func f_f) s_f c_f), Ud, Ud, (Iv 0), Ud, (.slice p_xs L_xs.length q_xs), (Iv (L_xs.length : Int)), (Iv 0), Ud, Ud, Ud, Ud, Ud, Ud, Ud, Ud, Ud, Ud] : List Value)[t]?).getD undef, rfl, Ext.refl _, ?_⟩
    exact ⟨Nat.zero_le _, NoneTo.zero⟩
  · rintro k a w5 ⟨u4, rfl, E6, ⟨hk, hno⟩⟩
    have X8 := Ext.gr (Ext.refl w) E6
    refine wp_seq_k fun K9 hK9 => ?_
    refine wp_region_lit ?_
    refine q_is (l' := [(.slice p_xs L_xs.length q_xs), (.func (.func f_f) s_f c_f), Ud, Ud, (u4 4), (u4 5), (.slice p_xs L_xs.length q_xs), (Iv (L_xs.length : Int)), (Iv (k : Int)), (Bo (icmp .lss (k : Int) (L_xs.length : Int))), (u4 10), (u4 11), (u4 12), (u4 13), (u4 14), (u4 15), (u4 16), (u4 17), (u4 18)]) rfl rfl (does_icmp (p := (k : Int)) (q := (L_xs.length : Int)) (.inr (.inr (.inl rfl))) (ev rfl) (ev rfl)) rfl ?_
    refine wpList_nil (hK9 _ _ ?_)
    refine wp_seq_k fun K10 hK10 => ?_
    refine wp_cond_split (t := icmp .lss (k : Int) (L_xs.length : Int)) (ev rfl) (fun c11 => ?_) (fun c11 => ?_)
    · have c11' := c11
      (try simp only [icmp, Bool.and_eq_true, Bool.or_eq_true, Bool.and_eq_false_iff, Bool.or_eq_false_iff, Bool.not_eq_true', Bool.not_eq_false', decide_eq_true_eq, decide_eq_false_iff_not, beq_iff_eq, bne_iff_ne, beq_eq_false_iff_ne, bne_eq_false_iff_eq] at c11')
      refine wp_skip (hK10 _ _ ?_)
      refine wp_seq_k fun K12 hK12 => ?_
      refine wp_block ?_
      refine wp_seq_k fun K13 hK13 => ?_
      refine wp_region_lit ?_
      refine q_is (l' := [(.slice p_xs L_xs.length q_xs), (.func (.func f_f) s_f c_f), Ud, Ud, (u4 4), (u4 5), (.slice p_xs L_xs.length q_xs), (Iv (L_xs.length : Int)), (Iv (k : Int)), (Bo (icmp .lss (k : Int) (L_xs.length : Int))), (Iv (k : Int)), (u4 11), (u4 12), (u4 13), (u4 14), (u4 15), (u4 16), (u4 17), (u4 18)]) rfl rfl (does_move (u := (Iv (k : Int))) (ev rfl)) rfl ?_
      refine q_is (l' := [(.slice p_xs L_xs.length q_xs), (.func (.func f_f) s_f c_f), Ud, Ud, (u4 4), (Iv (k : Int)), (.slice p_xs L_xs.length q_xs), (Iv (L_xs.length : Int)), (Iv (k : Int)), (Bo (icmp .lss (k : Int) (L_xs.length : Int))), (Iv (k : Int)), (u4 11), (u4 12), (u4 13), (u4 14), (u4 15), (u4 16), (u4 17), (u4 18)]) rfl rfl (does_assign (u := (Iv (k : Int))) (ev rfl)) rfl ?_
      refine wpList_nil (hK13 _ _ ?_)
      refine wp_seq_k fun K14 hK14 => ?_
      refine wp_region_lit ?_
      refine q_is (l' := [(.slice p_xs L_xs.length q_xs), (.func (.func f_f) s_f c_f), Ud, Ud, (u4 4), (Iv (k : Int)), (.slice p_xs L_xs.length q_xs), (Iv (L_xs.length : Int)), (Iv (k : Int)), (Bo (icmp .lss (k : Int) (L_xs.length : Int))), (Iv (k : Int)), (.func (.func f_f) s_f c_f), (u4 12), (u4 13), (u4 14), (u4 15), (u4 16), (u4 17), (u4 18)]) rfl rfl (does_move (u := (.func (.func f_f) s_f c_f)) (ev rfl)) rfl ?_
      refine q_is (l' := [(.slice p_xs L_xs.length q_xs), (.func (.func f_f) s_f c_f), Ud, Ud, (u4 4), (Iv (k : Int)), (.slice p_xs L_xs.length q_xs), (Iv (L_xs.length : Int)), (Iv (k : Int)), (Bo (icmp .lss (k : Int) (L_xs.length : Int))), (Iv (k : Int)), (.func (.func f_f) s_f c_f), (.slice p_xs L_xs.length q_xs), (u4 13), (u4 14), (u4 15), (u4 16), (u4 17), (u4 18)]) rfl rfl (does_move (u := (.slice p_xs L_xs.length q_xs)) (ev rfl)) rfl ?_
      refine q_is (l' := [(.slice p_xs L_xs.length q_xs), (.func (.func f_f) s_f c_f), Ud, Ud, (u4 4), (Iv (k : Int)), (.slice p_xs L_xs.length q_xs), (Iv (L_xs.length : Int)), (Iv (k : Int)), (Bo (icmp .lss (k : Int) (L_xs.length : Int))), (Iv (k : Int)), (.func (.func f_f) s_f c_f), (.slice p_xs L_xs.length q_xs), (Iv (k : Int)), (u4 14), (u4 15), (u4 16), (u4 17), (u4 18)]) rfl rfl (does_move (u := (Iv (k : Int))) (ev rfl)) rfl ?_
      obtain ⟨el1, hel1⟩ : ∃ e, L_xs[k]? = some e := ⟨_, List.getElem?_eq_getElem (by omega)⟩
      refine seqd rfl rfl (does_indexSl (R := RF) (i := (k : Int)) (xs := L_xs) (e := el1) Try.underlying52 Try.sizeOf22 (ev rfl) (ev rfl) (Sl.ext hv_xs RF.mono X8) (by omega) hel1) ?_; rintro _ w5 ⟨b15, o16, _, rfl, hc18, ⟨r19, rfl, h20⟩, rfl⟩
      show wpList _ _ _ _ (fr [(.slice p_xs L_xs.length q_xs), (.func (.func f_f) s_f c_f), Ud, Ud, (u4 4), (Iv (k : Int)), (.slice p_xs L_xs.length q_xs), (Iv (L_xs.length : Int)), (Iv (k : Int)), (Bo (icmp .lss (k : Int) (L_xs.length : Int))), (Iv (k : Int)), (.func (.func f_f) s_f c_f), (.slice p_xs L_xs.length q_xs), (Iv (k : Int)), (Pt b15 o16), (u4 15), (u4 16), (u4 17), (u4 18)]) _
      refine q_is (l' := [(.slice p_xs L_xs.length q_xs), (.func (.func f_f) s_f c_f), Ud, Ud, (u4 4), (Iv (k : Int)), (.slice p_xs L_xs.length q_xs), (Iv (L_xs.length : Int)), (Iv (k : Int)), (Bo (icmp .lss (k : Int) (L_xs.length : Int))), (Iv (k : Int)), (.func (.func f_f) s_f c_f), (.slice p_xs L_xs.length q_xs), (Iv (k : Int)), (Pt b15 o16), (Fl r19), (u4 16), (u4 17), (u4 18)]) rfl rfl (does_load (u := (Fl r19)) (ev rfl) Try.isAgg22 (Cells.at hc18 0 rfl)) rfl ?_
      refine seqd rfl rfl (does_callf (args := #[(Fl r19)]) (ev rfl) hcal_f (evs rfl) (hg_f r19 _ X8)) ?_; rintro _ w22 ⟨E21, rfl⟩
      have X23 := Ext.gr X8 E21
      show wpList _ _ _ _ (fr [(.slice p_xs L_xs.length q_xs), (.func (.func f_f) s_f c_f), Ud, Ud, (u4 4), (Iv (k : Int)), (.slice p_xs L_xs.length q_xs), (Iv (L_xs.length : Int)), (Iv (k : Int)), (Bo (icmp .lss (k : Int) (L_xs.length : Int))), (Iv (k : Int)), (.func (.func f_f) s_f c_f), (.slice p_xs L_xs.length q_xs), (Iv (k : Int)), (Pt b15 o16), (Fl r19), (Bo (pr_f (cf .f32 r19))), (u4 17), (u4 18)]) _
      refine wpList_nil (hK14 _ _ ?_)
      refine wp_cond_split (t := pr_f (cf .f32 r19)) (ev rfl) (fun c24 => ?_) (fun c24 => ?_)
      · have c24' := c24
        refine wp_seq_k fun K25 hK25 => ?_
        refine wp_region_lit ?_
        refine q_is (l' := [(.slice p_xs L_xs.length q_xs), (.func (.func f_f) s_f c_f), Ud, Ud, (u4 4), (Iv (k : Int)), (.slice p_xs L_xs.length q_xs), (Iv (L_xs.length : Int)), (Iv (k : Int)), (Bo (icmp .lss (k : Int) (L_xs.length : Int))), (Iv (k : Int)), (.func (.func f_f) s_f c_f), (.slice p_xs L_xs.length q_xs), (Iv (k : Int)), (Pt b15 o16), (Fl r19), (Bo (pr_f (cf .f32 r19))), (Iv (k : Int)), (u4 18)]) rfl rfl (does_move (u := (Iv (k : Int))) (ev rfl)) rfl ?_
        refine q_is (l' := [(.slice p_xs L_xs.length q_xs), (.func (.func f_f) s_f c_f), Ud, Ud, (Iv (k : Int)), (Iv (k : Int)), (.slice p_xs L_xs.length q_xs), (Iv (L_xs.length : Int)), (Iv (k : Int)), (Bo (icmp .lss (k : Int) (L_xs.length : Int))), (Iv (k : Int)), (.func (.func f_f) s_f c_f), (.slice p_xs L_xs.length q_xs), (Iv (k : Int)), (Pt b15 o16), (Fl r19), (Bo (pr_f (cf .f32 r19))), (Iv (k : Int)), (u4 18)]) rfl rfl (does_assign (u := (Iv (k : Int))) (ev rfl)) rfl ?_
        refine wpList_nil (hK25 _ _ ?_)
        refine wp_ret ?_
        dsimp only [Exit.then, Exit.inBlock]
        refine ret_val (v := (Iv (k : Int))) (res_T rfl (slot rfl)) X23 ?_
        try simp only [hel1, h20] at c11 c24
        have x26 : (findI pr_f L_xs : Int) = (k : Int) := by first | exact findI_at hno (by assumption) (by simp_all) | exact findI_none hno (by omega)
        exact (by first | with_reducible rfl | rw [x26] | rfl)
      have c24' := c24
      refine wp_skip (hK12 _ _ ?_)
      refine wp_region_lit ?_
      refine q_is (l' := [(.slice p_xs L_xs.length q_xs), (.func (.func f_f) s_f c_f), Ud, Ud, (u4 4), (Iv (k : Int)), (.slice p_xs L_xs.length q_xs), (Iv (L_xs.length : Int)), (Iv (k : Int)), (Bo (icmp .lss (k : Int) (L_xs.length : Int))), (Iv (k : Int)), (.func (.func f_f) s_f c_f), (.slice p_xs L_xs.length q_xs), (Iv (k : Int)), (Pt b15 o16), (Fl r19), (Bo (pr_f (cf .f32 r19))), (u4 17), (Iv ((k : Int) + 1))]) rfl rfl (does_iarith (p := (k : Int)) (q := 1) (r := (k : Int) + 1) (ev rfl) (ev rfl) (.inl ⟨rfl, (in_i64 (by omega) (by omega)).symm⟩)) rfl ?_
      refine q_is (l' := [(.slice p_xs L_xs.length q_xs), (.func (.func f_f) s_f c_f), Ud, Ud, (u4 4), (Iv (k : Int)), (.slice p_xs L_xs.length q_xs), (Iv (L_xs.length : Int)), (Iv ((k : Int) + 1)), (Bo (icmp .lss (k : Int) (L_xs.length : Int))), (Iv (k : Int)), (.func (.func f_f) s_f c_f), (.slice p_xs L_xs.length q_xs), (Iv (k : Int)), (Pt b15 o16), (Fl r19), (Bo (pr_f (cf .f32 r19))), (u4 17), (Iv ((k : Int) + 1))]) rfl rfl (does_move (u := (Iv ((k : Int) + 1))) (ev rfl)) rfl ?_
      refine wpList_nil ?_
      refine ⟨k + 1, ⟨fun t => (([(.slice p_xs L_xs.length q_xs), (.func (.func f_f) s_f c_f), Ud, Ud, (u4 4), (Iv (k : Int)), (.slice p_xs L_xs.length q_xs), (Iv (L_xs.length : Int)), (Iv ((k : Int) + 1)), (Bo (icmp .lss (k : Int) (L_xs.length : Int))), (Iv (k : Int)), (.func (.func f_f) s_f c_f), (.slice p_xs L_xs.length q_xs), (Iv (k : Int)), (Pt b15 o16), (Fl r19), (Bo (pr_f (cf .f32 r19))), (u4 17), (Iv ((k : Int) + 1))] : List Value)[t]?).getD undef, ?_, (Ext.gr E6 E21), ?_⟩, ?_⟩
      · first | rfl | (simp only [Int.natCast_add, Int.natCast_one]; rfl)
      · exact ⟨by omega, NoneTo.step hno (by assumption) (by simp_all)⟩
      · omega
    have c11' := c11
    (try simp only [icmp, Bool.and_eq_true, Bool.or_eq_true, Bool.and_eq_false_iff, Bool.or_eq_false_iff, Bool.not_eq_true', Bool.not_eq_false', decide_eq_true_eq, decide_eq_false_iff_not, beq_iff_eq, bne_iff_ne, beq_eq_false_iff_ne, bne_eq_false_iff_eq] at c11')
    refine wp_exit ?_
    refine hK2 _ _ ?_
    refine wp_seq_k fun K27 hK27 => ?_
    refine wp_region_lit ?_
    refine q_is (l' := [(.slice p_xs L_xs.length q_xs), (.func (.func f_f) s_f c_f), Ud, Ud, (Iv (-1)), (u4 5), (.slice p_xs L_xs.length q_xs), (Iv (L_xs.length : Int)), (Iv (k : Int)), (Bo (icmp .lss (k : Int) (L_xs.length : Int))), (u4 10), (u4 11), (u4 12), (u4 13), (u4 14), (u4 15), (u4 16), (u4 17), (u4 18)]) rfl rfl (does_assign (u := (Iv (-1))) (ev rfl)) rfl ?_
    refine wpList_nil (hK27 _ _ ?_)
    refine wp_ret ?_
    refine ret_val (v := (Iv (-1))) (res_T rfl (slot rfl)) X8 ?_
    have x28 : (findI pr_f L_xs : Int) = (-1) := by first | exact findI_at hno (by assumption) (by simp_all) | exact findI_none hno (by omega)
    exact (by first | with_reducible rfl | rw [x28] | rfl)

/- slices.ContainsFunc[[]float32,float32] -/
theorem c_slices_ContainsFunc_float32_float32 (xs : Value) (L_xs : List Nat) (f : Value) (pr_f : Nat → Bool) (w : World) (hv_xs : Sl RF 1 w xs L_xs) (hv_f : TellsF Try.prog f w pr_f) : Gives Try.prog 22 #[xs, f] w (fun v w' => v = (Bo (L_xs.any pr_f))) := by
  have hlen_xs := Sl.len hv_xs; obtain ⟨p_xs, q_xs, rfl⟩ := Sl.shape hv_xs
  obtain ⟨f_f, s_f, c_f, rfl, hcal_f, hg_f⟩ := hv_f
  refine enter [(.slice p_xs L_xs.length q_xs), (.func (.func f_f) s_f c_f), Ud, Ud, Ud, Ud, Ud, Ud, Ud] Try.func22 rfl Try.ntmps22 rfl ?_
  refine wp_seq_k fun K1 hK1 => ?_
  refine wp_region_lit ?_
  refine q_is (l' := [(.slice p_xs L_xs.length q_xs), (.func (.func f_f) s_f c_f), Ud, Ud, (Bo false), Ud, Ud, Ud, Ud]) rfl rfl (does_assign (u := (Bo false)) (ev rfl)) rfl ?_
  refine wpList_nil (hK1 _ _ ?_)
  refine wp_seq_k fun K2 hK2 => ?_
  refine wp_region_lit ?_
  refine q_is (l' := [(.slice p_xs L_xs.length q_xs), (.func (.func f_f) s_f c_f), Ud, Ud, (Bo false), (.slice p_xs L_xs.length q_xs), Ud, Ud, Ud]) rfl rfl (does_move (u := (.slice p_xs L_xs.length q_xs)) (ev rfl)) rfl ?_
  refine q_is (l' := [(.slice p_xs L_xs.length q_xs), (.func (.func f_f) s_f c_f), Ud, Ud, (Bo false), (.slice p_xs L_xs.length q_xs), (.func (.func f_f) s_f c_f), Ud, Ud]) rfl rfl (does_move (u := (.func (.func f_f) s_f c_f)) (ev rfl)) rfl ?_
  refine seqd rfl rfl (does_call (args := #[(.slice p_xs L_xs.length q_xs), (.func (.func f_f) s_f c_f)]) cal25 (evs rfl) (c_slices_IndexFunc_float32_float32 (.slice p_xs L_xs.length q_xs) L_xs (.func (.func f_f) s_f c_f) pr_f _ hv_xs ⟨_, _, _, rfl, hcal_f, fun r u hu' => hg_f r u (Ext.gr (Ext.refl w) hu')⟩)) ?_; rintro _ w4 ⟨E3, rfl⟩
  have X5 := Ext.gr (Ext.refl w) E3
  show wpList _ _ _ _ (fr [(.slice p_xs L_xs.length q_xs), (.func (.func f_f) s_f c_f), Ud, Ud, (Bo false), (.slice p_xs L_xs.length q_xs), (.func (.func f_f) s_f c_f), (Iv (findI pr_f L_xs)), Ud]) _
  refine q_is (l' := [(.slice p_xs L_xs.length q_xs), (.func (.func f_f) s_f c_f), Ud, Ud, (Bo false), (.slice p_xs L_xs.length q_xs), (.func (.func f_f) s_f c_f), (Iv (findI pr_f L_xs)), (Bo (icmp .geq (findI pr_f L_xs) 0))]) rfl rfl (does_icmp (p := findI pr_f L_xs) (q := 0) (.inr (.inr (.inr (.inr (.inr rfl))))) (ev rfl) (ev rfl)) rfl ?_
  refine q_is (l' := [(.slice p_xs L_xs.length q_xs), (.func (.func f_f) s_f c_f), Ud, Ud, (Bo (icmp .geq (findI pr_f L_xs) 0)), (.slice p_xs L_xs.length q_xs), (.func (.func f_f) s_f c_f), (Iv (findI pr_f L_xs)), (Bo (icmp .geq (findI pr_f L_xs) 0))]) rfl rfl (does_assign (u := (Bo (icmp .geq (findI pr_f L_xs) 0))) (ev rfl)) rfl ?_
  refine wpList_nil (hK2 _ _ ?_)
  refine wp_ret ?_
  refine ret_val (v := (Bo (icmp .geq (findI pr_f L_xs) 0))) (res_T rfl (slot rfl)) X5 ?_
  have x6 : (L_xs.any pr_f) = (icmp .geq (findI pr_f L_xs) 0) := by first | with_reducible rfl | (simp only [findI_any]; done) | (simp [findI_any]; done) | rfl
  exact (by first | with_reducible rfl | rw [x6] | rfl)

/- impl.IsFinite -/
theorem c_impl_IsFinite (x : Nat) (w : World) : Gives Try.prog 24 #[(Fl x)] w (fun v w' => v = (Bo (finF (cf .f32 x)))) := by
  refine enter [(Fl x), Ud, Ud, Ud, Ud, Ud, Ud] Try.func24 rfl Try.ntmps24 rfl ?_
  refine wp_seq_k fun K1 hK1 => ?_
  refine wp_region_lit ?_
  refine q_is (l' := [(Fl x), Ud, (Bo false), Ud, Ud, Ud, Ud]) rfl rfl (does_assign (u := (Bo false)) (ev rfl)) rfl ?_
  refine wpList_nil (hK1 _ _ ?_)
  refine wp_seq_k fun K2 hK2 => ?_
  refine wp_region_lit ?_
  refine q_is (l' := [(Fl x), Ud, (Bo false), (Fl x), Ud, Ud, Ud]) rfl rfl (does_move (u := (Fl x)) (ev rfl)) rfl ?_
  refine q_is (l' := [(Fl x), Ud, (Bo false), (Fl x), (Fl x), Ud, Ud]) rfl rfl (does_move (u := (Fl x)) (ev rfl)) rfl ?_
  refine seqd rfl rfl (does_float (.inr (.inl rfl)) (ev rfl) (ev rfl)) ?_; rintro _ w6 ⟨r3, rfl, h4, E5⟩
  have X7 := Ext.gr (Ext.refl w) E5
  show wpList _ _ _ _ (fr [(Fl x), Ud, (Bo false), (Fl x), (Fl x), (Fl r3), Ud]) _
  refine q_is (l' := [(Fl x), Ud, (Bo false), (Fl x), (Fl x), (Fl r3), (Bo (fcmp .eql (ford .f32 (cf .f32 r3) (cf .f32 0))))]) rfl rfl (does_fcmp (.inl rfl) (ev rfl) (ev rfl)) rfl ?_
  refine q_is (l' := [(Fl x), Ud, (Bo (fcmp .eql (ford .f32 (cf .f32 r3) (cf .f32 0)))), (Fl x), (Fl x), (Fl r3), (Bo (fcmp .eql (ford .f32 (cf .f32 r3) (cf .f32 0))))]) rfl rfl (does_assign (u := (Bo (fcmp .eql (ford .f32 (cf .f32 r3) (cf .f32 0))))) (ev rfl)) rfl ?_
  refine wpList_nil (hK2 _ _ ?_)
  refine wp_ret ?_
  refine ret_val (v := (Bo (fcmp .eql (ford .f32 (cf .f32 r3) (cf .f32 0))))) (res_T rfl (slot rfl)) X7 ?_
  have x8 : (finF (cf .f32 x)) = (fcmp .eql (ford .f32 (cf .f32 r3) (cf .f32 0))) := by first | with_reducible rfl | (simp only [finF, h4]; done) | (simp [finF, h4]; done) | rfl
  exact (by first | with_reducible rfl | rw [x8] | rfl)

/- impl.finite$1 -/
theorem c_impl_finite_1 (x : Nat) (w : World) : Gives Try.prog 23 #[(Fl x)] w (fun v w' => v = (Bo (!finF (cf .f32 x)))) := by
  refine enter [(Fl x), Ud, Ud, Ud, Ud, Ud] Try.func23 rfl Try.ntmps23 rfl ?_
  refine wp_seq_k fun K1 hK1 => ?_
  refine wp_region_lit ?_
  refine q_is (l' := [(Fl x), Ud, (Bo false), Ud, Ud, Ud]) rfl rfl (does_assign (u := (Bo false)) (ev rfl)) rfl ?_
  refine wpList_nil (hK1 _ _ ?_)
  refine wp_seq_k fun K2 hK2 => ?_
  refine wp_region_lit ?_
  refine q_is (l' := [(Fl x), Ud, (Bo false), (Fl x), Ud, Ud]) rfl rfl (does_move (u := (Fl x)) (ev rfl)) rfl ?_
  refine seqd rfl rfl (does_call (args := #[(Fl x)]) cal24 (evs rfl) (c_impl_IsFinite x _)) ?_; rintro _ w4 ⟨E3, rfl⟩
  have X5 := Ext.gr (Ext.refl w) E3
  show wpList _ _ _ _ (fr [(Fl x), Ud, (Bo false), (Fl x), (Bo (finF (cf .f32 x))), Ud]) _
  refine q_is (l' := [(Fl x), Ud, (Bo false), (Fl x), (Bo (finF (cf .f32 x))), (Bo (!(finF (cf .f32 x))))]) rfl rfl (does_not (ev rfl)) rfl ?_
  refine q_is (l' := [(Fl x), Ud, (Bo (!(finF (cf .f32 x)))), (Fl x), (Bo (finF (cf .f32 x))), (Bo (!(finF (cf .f32 x))))]) rfl rfl (does_assign (u := (Bo (!(finF (cf .f32 x))))) (ev rfl)) rfl ?_
  refine wpList_nil (hK2 _ _ ?_)
  refine wp_ret ?_
  refine ret_val (v := (Bo (!(finF (cf .f32 x))))) (res_T rfl (slot rfl)) X5 ?_
  have x6 : (!finF (cf .f32 x)) = (!(finF (cf .f32 x))) := by first | with_reducible rfl | (simp only []; done) | (simp []; done) | rfl
  exact (by first | with_reducible rfl | rw [x6] | rfl)

/- impl.finite -/
theorem c_impl_finite (xs : Value) (L_xs : List Nat) (w : World) (hv_xs : Sl RF 1 w xs L_xs) : Gives Try.prog 21 #[xs] w (fun v w' => v = (Bo (!L_xs.any (fun x => !finF x)))) := by
  have hlen_xs := Sl.len hv_xs; obtain ⟨p_xs, q_xs, rfl⟩ := Sl.shape hv_xs
  refine enter [(.slice p_xs L_xs.length q_xs), Ud, Ud, Ud, Ud, Ud] Try.func21 rfl Try.ntmps21 rfl ?_
  refine wp_seq_k fun K1 hK1 => ?_
  refine wp_region_lit ?_
  refine q_is (l' := [(.slice p_xs L_xs.length q_xs), Ud, (Bo false), Ud, Ud, Ud]) rfl rfl (does_assign (u := (Bo false)) (ev rfl)) rfl ?_
  refine wpList_nil (hK1 _ _ ?_)
  refine wp_seq_k fun K2 hK2 => ?_
  refine wp_region_lit ?_
  refine q_is (l' := [(.slice p_xs L_xs.length q_xs), Ud, (Bo false), (.slice p_xs L_xs.length q_xs), Ud, Ud]) rfl rfl (does_move (u := (.slice p_xs L_xs.length q_xs)) (ev rfl)) rfl ?_
  refine seqd rfl rfl (does_call (args := #[(.slice p_xs L_xs.length q_xs), (.func (.func 23) #[] #[])]) cal22 (evs rfl) (c_slices_ContainsFunc_float32_float32 (.slice p_xs L_xs.length q_xs) L_xs (.func (.func 23) #[] #[]) (fun x => !finF x) _ hv_xs ⟨23, #[], #[], rfl, cal23, fun r u hu' => by simpa using (c_impl_finite_1 r u)⟩)) ?_; rintro _ w4 ⟨E3, rfl⟩
  have X5 := Ext.gr (Ext.refl w) E3
  show wpList _ _ _ _ (fr [(.slice p_xs L_xs.length q_xs), Ud, (Bo false), (.slice p_xs L_xs.length q_xs), (Bo (L_xs.any (fun x => !finF x))), Ud]) _
  refine q_is (l' := [(.slice p_xs L_xs.length q_xs), Ud, (Bo false), (.slice p_xs L_xs.length q_xs), (Bo (L_xs.any (fun x => !finF x))), (Bo (!(L_xs.any (fun x => !finF x))))]) rfl rfl (does_not (ev rfl)) rfl ?_
  refine q_is (l' := [(.slice p_xs L_xs.length q_xs), Ud, (Bo (!(L_xs.any (fun x => !finF x)))), (.slice p_xs L_xs.length q_xs), (Bo (L_xs.any (fun x => !finF x))), (Bo (!(L_xs.any (fun x => !finF x))))]) rfl rfl (does_assign (u := (Bo (!(L_xs.any (fun x => !finF x))))) (ev rfl)) rfl ?_
  refine wpList_nil (hK2 _ _ ?_)
  refine wp_ret ?_
  refine ret_val (v := (Bo (!(L_xs.any (fun x => !finF x))))) (res_T rfl (slot rfl)) X5 ?_
  have x6 : (!L_xs.any (fun x => !finF x)) = (!(L_xs.any (fun x => !finF x))) := by first | with_reducible rfl | (simp only []; done) | (simp []; done) | rfl
  exact (by first | with_reducible rfl | rw [x6] | rfl)

/- impl.finiteVector -/
theorem c_impl_finiteVector (v : List Value) (A_v : V3) (w : World) (hv_v : RV3 w A_v v) : Gives Try.prog 18 #[(.agg v.toArray)] w (fun v w' => v = (Bo (finV A_v))) := by
  obtain ⟨r1, r3, r5, rfl, h2, h4, h6⟩ := hv_v
  refine enter [(.agg #[(Fl r1), (Fl r3), (Fl r5)]), Ud, Ud, Ud, Ud, Ud, Ud, Ud, Ud, Ud, Ud] Try.func18 rfl Try.ntmps18 rfl ?_
  refine wp_seq_k fun K7 hK7 => ?_
  refine wp_region_lit ?_
  refine seqd rfl rfl (does_box (u := (.agg #[(Fl r1), (Fl r3), (Fl r5)])) (ev rfl)) ?_; rintro _ w12 ⟨b8, rfl, hb9, hB10, E11⟩
  have g13 : w.heap.size ≤ b8 := Nat.le_trans (Below.size (Ext.refl w)) hb9
  change Blk _ _ [(Fl r1), (Fl r3), (Fl r5)] at hB10
  have X14 := Ext.gr (Ext.refl w) E11
  show wpList _ _ _ _ (fr [(.agg #[(Fl r1), (Fl r3), (Fl r5)]), (Pt b8 0), Ud, Ud, Ud, Ud, Ud, Ud, Ud, Ud, Ud]) _
  refine q_is (l' := [(.agg #[(Fl r1), (Fl r3), (Fl r5)]), (Pt b8 0), (Bo false), Ud, Ud, Ud, Ud, Ud, Ud, Ud, Ud]) rfl rfl (does_assign (u := (Bo false)) (ev rfl)) rfl ?_
  refine wpList_nil (hK7 _ _ ?_)
  refine wp_seq_k fun K15 hK15 => ?_
  refine wp_region_lit ?_
  refine q_is (l' := [(.agg #[(Fl r1), (Fl r3), (Fl r5)]), (Pt b8 0), (Bo false), (Pt b8 0), Ud, Ud, Ud, Ud, Ud, Ud, Ud]) rfl rfl (does_fieldAddr (ev rfl) fa27_0) rfl ?_
  refine q_is (l' := [(.agg #[(Fl r1), (Fl r3), (Fl r5)]), (Pt b8 0), (Bo false), (Pt b8 0), (Fl r1), Ud, Ud, Ud, Ud, Ud, Ud]) rfl rfl (does_load (u := (Fl r1)) (ev rfl) Try.isAgg22 (Cells.at (Blk.cells hB10) 0 rfl)) rfl ?_
  refine q_is (l' := [(.agg #[(Fl r1), (Fl r3), (Fl r5)]), (Pt b8 0), (Bo false), (Pt b8 0), (Fl r1), (Pt b8 1), Ud, Ud, Ud, Ud, Ud]) rfl rfl (does_fieldAddr (ev rfl) fa27_1) rfl ?_
  refine q_is (l' := [(.agg #[(Fl r1), (Fl r3), (Fl r5)]), (Pt b8 0), (Bo false), (Pt b8 0), (Fl r1), (Pt b8 1), (Fl r3), Ud, Ud, Ud, Ud]) rfl rfl (does_load (u := (Fl r3)) (ev rfl) Try.isAgg22 (Cells.at (Blk.cells hB10) 1 rfl)) rfl ?_
  refine q_is (l' := [(.agg #[(Fl r1), (Fl r3), (Fl r5)]), (Pt b8 0), (Bo false), (Pt b8 0), (Fl r1), (Pt b8 1), (Fl r3), (Pt b8 2), Ud, Ud, Ud]) rfl rfl (does_fieldAddr (ev rfl) fa27_2) rfl ?_
  refine q_is (l' := [(.agg #[(Fl r1), (Fl r3), (Fl r5)]), (Pt b8 0), (Bo false), (Pt b8 0), (Fl r1), (Pt b8 1), (Fl r3), (Pt b8 2), (Fl r5), Ud, Ud]) rfl rfl (does_load (u := (Fl r5)) (ev rfl) Try.isAgg22 (Cells.at (Blk.cells hB10) 2 rfl)) rfl ?_
  refine seqd rfl rfl (does_buildSlice (e := 22) (parts' := [(0, (Fl r1)), (1, (Fl r3)), (2, (Fl r5))]) (cells := [(Fl r1), (Fl r3), (Fl r5)]) (evp rfl) (fun _ => by kernel_rfl)) ?_; rintro _ w20 ⟨b16, rfl, hb17, hB18, E19⟩
  have n21 : b8 < b16 := Nat.lt_of_lt_of_le (Blk.lt hB10) hb17
  have g22 : w.heap.size ≤ b16 := Nat.le_trans (Below.size X14) hb17
  have X23 := Ext.gr X14 E19
  show wpList _ _ _ _ (fr [(.agg #[(Fl r1), (Fl r3), (Fl r5)]), (Pt b8 0), (Bo false), (Pt b8 0), (Fl r1), (Pt b8 1), (Fl r3), (Pt b8 2), (Fl r5), (.slice (some ⟨b16, 0, none⟩) 3 3), Ud]) _
  refine seqd rfl rfl (does_call (args := #[(.slice (some ⟨b16, 0, none⟩) 3 3)]) cal21 (evs rfl) (c_impl_finite (.slice (some ⟨b16, 0, none⟩) 3 3) [(cf .f32 r1), (cf .f32 r3), (cf .f32 r5)] _ (Sl_lit3 hB18 ⟨_, rfl, rfl⟩ ⟨_, rfl, rfl⟩ ⟨_, rfl, rfl⟩))) ?_; rintro _ w25 ⟨E24, rfl⟩
  have X26 := Ext.gr X23 E24
  show wpList _ _ _ _ (fr [(.agg #[(Fl r1), (Fl r3), (Fl r5)]), (Pt b8 0), (Bo false), (Pt b8 0), (Fl r1), (Pt b8 1), (Fl r3), (Pt b8 2), (Fl r5), (.slice (some ⟨b16, 0, none⟩) 3 3), (Bo (!([(cf .f32 r1), (cf .f32 r3), (cf .f32 r5)]).any (fun x => !finF x)))]) _
  refine q_is (l' := [(.agg #[(Fl r1), (Fl r3), (Fl r5)]), (Pt b8 0), (Bo (!([(cf .f32 r1), (cf .f32 r3), (cf .f32 r5)]).any (fun x => !finF x))), (Pt b8 0), (Fl r1), (Pt b8 1), (Fl r3), (Pt b8 2), (Fl r5), (.slice (some ⟨b16, 0, none⟩) 3 3), (Bo (!([(cf .f32 r1), (cf .f32 r3), (cf .f32 r5)]).any (fun x => !finF x)))]) rfl rfl (does_assign (u := (Bo (!([(cf .f32 r1), (cf .f32 r3), (cf .f32 r5)]).any (fun x => !finF x)))) (ev rfl)) rfl ?_
  refine wpList_nil (hK15 _ _ ?_)
  refine wp_ret ?_
  refine ret_val (v := (Bo (!([(cf .f32 r1), (cf .f32 r3), (cf .f32 r5)]).any (fun x => !finF x)))) (res_T rfl (slot rfl)) X26 ?_
  have x27 : (finV A_v) = (!([(cf .f32 r1), (cf .f32 r3), (cf .f32 r5)]).any (fun x => !finF x)) := by first | with_reducible rfl | (simp only [finV, any3_finF, h2, h4, h6]; done) | (simp [finV, any3_finF, h2, h4, h6]; done) | rfl
  exact (by first | with_reducible rfl | rw [x27] | rfl)

/- impl.ValidBox -/
theorem c_impl_ValidBox (b : List Value) (A_b : Bx) (w : World) (hv_b : RBx w A_b b) : Gives Try.prog 11 #[(.agg b.toArray)] w (fun v w' => v = (Bo (isBox A_b))) := by
  obtain ⟨r1, r3, r5, r7, r9, r11, rfl, h2, h4, h6, h8, h10, h12⟩ := hv_b
  refine enter [(.agg #[(Fl r1), (Fl r3), (Fl r5), (Fl r7), (Fl r9), (Fl r11)]), Ud, Ud, Ud, Ud, Ud, Ud, Ud, Ud, Ud, Ud, Ud, Ud, Ud, Ud, Ud, Ud, Ud, Ud, Ud, Ud, Ud, Ud, Ud, Ud, Ud, Ud, Ud, Ud, Ud, Ud, Ud, Ud, Ud, Ud, Ud, Ud, Ud] Try.func11 rfl Try.ntmps11 rfl ?_
  refine wp_seq_k fun K13 hK13 => ?_
  refine wp_region_lit ?_
  refine seqd rfl rfl (does_box (u := (.agg #[(Fl r1), (Fl r3), (Fl r5), (Fl r7), (Fl r9), (Fl r11)])) (ev rfl)) ?_; rintro _ w18 ⟨b14, rfl, hb15, hB16, E17⟩
  have g19 : w.heap.size ≤ b14 := Nat.le_trans (Below.size (Ext.refl w)) hb15
  change Blk _ _ [(Fl r1), (Fl r3), (Fl r5), (Fl r7), (Fl r9), (Fl r11)] at hB16
  have X20 := Ext.gr (Ext.refl w) E17
  show wpList _ _ _ _ (fr [_, _, _, _, _, _, _, _, _, _, _, _, _, _, _, _, _, _, _, _, _, _, _, _, _, _, _, _, _, _, _, _, _, _, _, _, _, _]) _
  refine q_is rfl rfl (does_assign (u := (Bo false)) (ev rfl)) (by dsimp only [List.set]; try rfl) ?_
  refine wpList_nil (hK13 _ _ ?_)
  refine wp_seq_k fun K21 hK21 => ?_
  obtain ⟨β1, hβ1⟩ : ∃ b : Bool, b = ((finV A_b.lo) && (finV A_b.hi)) := ⟨_, rfl⟩
  obtain ⟨β2, hβ2⟩ : ∃ b : Bool, b = (fcmp .leq (ford .f32 (cf .f32 r1) (cf .f32 r7))) := ⟨_, rfl⟩
  obtain ⟨β3, hβ3⟩ : ∃ b : Bool, b = (fcmp .leq (ford .f32 (cf .f32 r3) (cf .f32 r9))) := ⟨_, rfl⟩
  obtain ⟨β4, hβ4⟩ : ∃ b : Bool, b = (fcmp .leq (ford .f32 (cf .f32 r5) (cf .f32 r11))) := ⟨_, rfl⟩
  refine region_text (
    [Fact.pure [] (fun v => v = (Pt b14 0)),
    Fact.pure [3] (fun v => v = (.agg #[(Fl r1), (Fl r3), (Fl r5)])),
    Fact.pure [4] (fun v => v = (Bo (finV A_b.lo))),
    Fact.pure [5] (fun v => v = (Bo (finV A_b.lo))),
    Fact.pure [6] (fun v => (finV A_b.lo) = true → v = (Pt b14 3)),
    Fact.pure [7, 6] (fun v => (finV A_b.lo) = true → v = (.agg #[(Fl r7), (Fl r9), (Fl r11)])),
    Fact.pure [8, 6] (fun v => (finV A_b.lo) = true → v = (Bo (finV A_b.hi))),
    Fact.pure [6, 9] (fun v => v = (Bo β1)),
    Fact.pure [10] (fun v => v = (Bo β1)),
    Fact.pure [11] (fun v => β1 = true → v = (Pt b14 0)),
    Fact.pure [12, 11] (fun v => β1 = true → v = (Pt b14 0)),
    Fact.pure [13, 11] (fun v => β1 = true → v = (Fl r1)),
    Fact.pure [11] (fun v => β1 = true → v = (Pt b14 3)),
    Fact.pure [15, 11] (fun v => β1 = true → v = (Pt b14 3)),
    Fact.pure [16, 11] (fun v => β1 = true → v = (Fl r7)),
    Fact.pure [14, 17, 11] (fun v => β1 = true → v = (Bo β2)),
    Fact.pure [11, 18] (fun v => v = (Bo (β1 && β2))),
    Fact.pure [19] (fun v => v = (Bo (β1 && β2))),
    Fact.pure [20] (fun v => (β1 && β2) = true → v = (Pt b14 0)),
    Fact.pure [21, 20] (fun v => (β1 && β2) = true → v = (Pt b14 1)),
    Fact.pure [22, 20] (fun v => (β1 && β2) = true → v = (Fl r3)),
    Fact.pure [20] (fun v => (β1 && β2) = true → v = (Pt b14 3)),
    Fact.pure [24, 20] (fun v => (β1 && β2) = true → v = (Pt b14 4)),
    Fact.pure [25, 20] (fun v => (β1 && β2) = true → v = (Fl r9)),
    Fact.pure [23, 26, 20] (fun v => (β1 && β2) = true → v = (Bo β3)),
    Fact.pure [20, 27] (fun v => v = (Bo ((β1 && β2) && β3))),
    Fact.pure [28] (fun v => v = (Bo ((β1 && β2) && β3))),
    Fact.pure [29] (fun v => ((β1 && β2) && β3) = true → v = (Pt b14 0)),
    Fact.pure [30, 29] (fun v => ((β1 && β2) && β3) = true → v = (Pt b14 2)),
    Fact.pure [31, 29] (fun v => ((β1 && β2) && β3) = true → v = (Fl r5)),
    Fact.pure [29] (fun v => ((β1 && β2) && β3) = true → v = (Pt b14 3)),
    Fact.pure [33, 29] (fun v => ((β1 && β2) && β3) = true → v = (Pt b14 5)),
    Fact.pure [34, 29] (fun v => ((β1 && β2) && β3) = true → v = (Fl r11)),
    Fact.pure [32, 35, 29] (fun v => ((β1 && β2) && β3) = true → v = (Bo β4)),
    Fact.pure [29, 36] (fun v => v = (Bo (((β1 && β2) && β3) && β4)))]) (by simp [Fact.pure, Fact.mem]) ?_
  refine RW_d _ rfl (fun v => by dsimp only [List.set]; try rfl) (fun u hu hF => ?_) (fun v22 => ?_)
  · clear hF
    refine doesG_un rfl ?_
    refine (does_fieldAddr (ev rfl) fa29_0).mono ?_; rintro _ _ ⟨rfl, rfl⟩
    exact ⟨rfl, Ext.refl _⟩
  refine RW_d _ rfl (fun v => by dsimp only [List.set]; try rfl) (fun u hu hF => ?_) (fun v23 => ?_)
  · have h3_ : v22 = (Pt b14 0) := hF.1
    clear hF
    refine doesG_un rfl ?_
    obtain rfl := h3_
    refine (does_loadAgg (cs := [(Fl r1), (Fl r3), (Fl r5)]) (ev rfl) Try.isAgg27 Try.sizeOf27 (Cells.sub (Blk.cells (hB16.ext hu)) 0 3) rfl).mono ?_; rintro _ _ ⟨rfl, rfl⟩
    exact ⟨rfl, Ext.refl _⟩
  refine RW_d _ rfl (fun v => by dsimp only [List.set]; try rfl) (fun u hu hF => ?_) (fun v24 => ?_)
  · have h4_ : v23 = (.agg #[(Fl r1), (Fl r3), (Fl r5)]) := hF.1
    clear hF
    refine doesG_un rfl ?_
    obtain rfl := h4_
    refine (does_call (args := #[(.agg #[(Fl r1), (Fl r3), (Fl r5)])]) cal18 (evs rfl) (c_impl_finiteVector [(Fl r1), (Fl r3), (Fl r5)] A_b.lo _ ⟨r1, r3, r5, rfl, h2, h4, h6⟩)).mono ?_; rintro v u' ⟨hx, hv⟩
    exact ⟨hv, hx⟩
  refine RW_d _ rfl (fun v => by dsimp only [List.set]; try rfl) (fun u hu hF => ?_) (fun v25 => ?_)
  · have h5_ : v24 = (Bo (finV A_b.lo)) := hF.1
    clear hF
    refine doesG_un rfl ?_
    obtain rfl := h5_
    refine (does_move (u := (Bo (finV A_b.lo))) (ev rfl)).mono ?_; rintro _ _ ⟨rfl, rfl⟩
    exact ⟨rfl, Ext.refl _⟩
  refine RW_d _ rfl (fun v => by dsimp only [List.set]; try rfl) (fun u hu hF => ?_) (fun v26 => ?_)
  · have h6_ : v25 = (Bo (finV A_b.lo)) := hF.1
    clear hF
    obtain rfl := h6_
    refine doesG_g (b := (finV A_b.lo)) rfl (yld rfl rfl) (fun hg1 => ?_) (fun hc => ⟨fun hg1 => absurd hg1 hc, Ext.refl _⟩)
    refine (does_fieldAddr (ev rfl) fa29_1).mono ?_; rintro _ _ ⟨rfl, rfl⟩
    exact ⟨fun _ => rfl, Ext.refl _⟩
  refine RW_d _ rfl (fun v => by dsimp only [List.set]; try rfl) (fun u hu hF => ?_) (fun v27 => ?_)
  · have h7_ : (finV A_b.lo) = true → v26 = (Pt b14 3) := hF.1
    have h6_ : v25 = (Bo (finV A_b.lo)) := hF.2.1
    clear hF
    obtain rfl := h6_
    refine doesG_g (b := (finV A_b.lo)) rfl (yld rfl rfl) (fun hg1 => ?_) (fun hc => ⟨fun hg1 => absurd hg1 hc, Ext.refl _⟩)
    obtain rfl := h7_ hg1
    refine (does_loadAgg (cs := [(Fl r7), (Fl r9), (Fl r11)]) (ev rfl) Try.isAgg27 Try.sizeOf27 (Cells.sub (Blk.cells (hB16.ext hu)) 3 3) rfl).mono ?_; rintro _ _ ⟨rfl, rfl⟩
    exact ⟨fun _ => rfl, Ext.refl _⟩
  refine RW_d _ rfl (fun v => by dsimp only [List.set]; try rfl) (fun u hu hF => ?_) (fun v28 => ?_)
  · have h8_ : (finV A_b.lo) = true → v27 = (.agg #[(Fl r7), (Fl r9), (Fl r11)]) := hF.1
    have h6_ : v25 = (Bo (finV A_b.lo)) := hF.2.1
    clear hF
    obtain rfl := h6_
    refine doesG_g (b := (finV A_b.lo)) rfl (yld rfl rfl) (fun hg1 => ?_) (fun hc => ⟨fun hg1 => absurd hg1 hc, Ext.refl _⟩)
    obtain rfl := h8_ hg1
    refine (does_call (args := #[(.agg #[(Fl r7), (Fl r9), (Fl r11)])]) cal18 (evs rfl) (c_impl_finiteVector [(Fl r7), (Fl r9), (Fl r11)] A_b.hi _ ⟨r7, r9, r11, rfl, h8, h10, h12⟩)).mono ?_; rintro v u' ⟨hx, hv⟩
    exact ⟨fun _ => hv, hx⟩
  refine RW_d _ rfl (fun v => by dsimp only [List.set]; try rfl) (fun u hu hF => ?_) (fun v29 => ?_)
  · have h6_ : v25 = (Bo (finV A_b.lo)) := hF.1
    have h9_ : (finV A_b.lo) = true → v28 = (Bo (finV A_b.hi)) := hF.2.1
    clear hF
    refine doesG_un rfl ?_
    skip
    obtain rfl := h6_
    refine (does_pick (b := (finV A_b.lo)) (u := v28) (v := (Bo false)) (ev rfl) (ev rfl) (ev rfl)).mono ?_; rintro _ _ ⟨rfl, rfl⟩; refine ⟨?_, Ext.refl _⟩; rw [hβ1]; skip
    cases hbb : (finV A_b.lo)
    all_goals first | (show _ = _; simp only [↓reduceIte, Bool.true_and, Bool.false_and, Bool.true_or, Bool.false_or, Bool.false_eq_true]; done) | (have e_ := h9_ hbb; subst e_; show _ = _; simp only [↓reduceIte, Bool.true_and, Bool.false_and, Bool.true_or, Bool.false_or, Bool.false_eq_true]; done) | rfl | (have e_ := h9_ hbb; subst e_; rfl) | (simp [hbb] at h9_ ⊢; first | done | rfl | (subst h9_; rfl) | simp_all) | (simp [hbb] at h9_ ⊢; done)
  refine RW_d _ rfl (fun v => by dsimp only [List.set]; try rfl) (fun u hu hF => ?_) (fun v30 => ?_)
  · have h10_ : v29 = (Bo β1) := hF.1
    clear hF
    refine doesG_un rfl ?_
    obtain rfl := h10_
    refine (does_move (u := (Bo β1)) (ev rfl)).mono ?_; rintro _ _ ⟨rfl, rfl⟩
    exact ⟨rfl, Ext.refl _⟩
  refine RW_d _ rfl (fun v => by dsimp only [List.set]; try rfl) (fun u hu hF => ?_) (fun v31 => ?_)
  · have h11_ : v30 = (Bo β1) := hF.1
    clear hF
    obtain rfl := h11_
    refine doesG_g (b := β1) rfl (yld rfl rfl) (fun hg1 => ?_) (fun hc => ⟨fun hg1 => absurd hg1 hc, Ext.refl _⟩)
    refine (does_fieldAddr (ev rfl) fa29_0).mono ?_; rintro _ _ ⟨rfl, rfl⟩
    exact ⟨fun _ => rfl, Ext.refl _⟩
  refine RW_d _ rfl (fun v => by dsimp only [List.set]; try rfl) (fun u hu hF => ?_) (fun v32 => ?_)
  · have h12_ : β1 = true → v31 = (Pt b14 0) := hF.1
    have h11_ : v30 = (Bo β1) := hF.2.1
    clear hF
    obtain rfl := h11_
    refine doesG_g (b := β1) rfl (yld rfl rfl) (fun hg1 => ?_) (fun hc => ⟨fun hg1 => absurd hg1 hc, Ext.refl _⟩)
    obtain rfl := h12_ hg1
    refine (does_fieldAddr (ev rfl) fa27_0).mono ?_; rintro _ _ ⟨rfl, rfl⟩
    exact ⟨fun _ => rfl, Ext.refl _⟩
  refine RW_d _ rfl (fun v => by dsimp only [List.set]; try rfl) (fun u hu hF => ?_) (fun v33 => ?_)
  · have h13_ : β1 = true → v32 = (Pt b14 0) := hF.1
    have h11_ : v30 = (Bo β1) := hF.2.1
    clear hF
    obtain rfl := h11_
    refine doesG_g (b := β1) rfl (yld rfl rfl) (fun hg1 => ?_) (fun hc => ⟨fun hg1 => absurd hg1 hc, Ext.refl _⟩)
    obtain rfl := h13_ hg1
    refine (does_load (u := (Fl r1)) (ev rfl) Try.isAgg22 (Cells.at (Blk.cells (hB16.ext hu)) 0 rfl)).mono ?_; rintro _ _ ⟨rfl, rfl⟩
    exact ⟨fun _ => rfl, Ext.refl _⟩
  refine RW_d _ rfl (fun v => by dsimp only [List.set]; try rfl) (fun u hu hF => ?_) (fun v34 => ?_)
  · have h11_ : v30 = (Bo β1) := hF.1
    clear hF
    obtain rfl := h11_
    refine doesG_g (b := β1) rfl (yld rfl rfl) (fun hg1 => ?_) (fun hc => ⟨fun hg1 => absurd hg1 hc, Ext.refl _⟩)
    refine (does_fieldAddr (ev rfl) fa29_1).mono ?_; rintro _ _ ⟨rfl, rfl⟩
    exact ⟨fun _ => rfl, Ext.refl _⟩
  refine RW_d _ rfl (fun v => by dsimp only [List.set]; try rfl) (fun u hu hF => ?_) (fun v35 => ?_)
  · have h15_ : β1 = true → v34 = (Pt b14 3) := hF.1
    have h11_ : v30 = (Bo β1) := hF.2.1
    clear hF
    obtain rfl := h11_
    refine doesG_g (b := β1) rfl (yld rfl rfl) (fun hg1 => ?_) (fun hc => ⟨fun hg1 => absurd hg1 hc, Ext.refl _⟩)
    obtain rfl := h15_ hg1
    refine (does_fieldAddr (ev rfl) fa27_0).mono ?_; rintro _ _ ⟨rfl, rfl⟩
    exact ⟨fun _ => rfl, Ext.refl _⟩
  refine RW_d _ rfl (fun v => by dsimp only [List.set]; try rfl) (fun u hu hF => ?_) (fun v36 => ?_)
  · have h16_ : β1 = true → v35 = (Pt b14 3) := hF.1
    have h11_ : v30 = (Bo β1) := hF.2.1
    clear hF
    obtain rfl := h11_
    refine doesG_g (b := β1) rfl (yld rfl rfl) (fun hg1 => ?_) (fun hc => ⟨fun hg1 => absurd hg1 hc, Ext.refl _⟩)
    obtain rfl := h16_ hg1
    refine (does_load (u := (Fl r7)) (ev rfl) Try.isAgg22 (Cells.at (Blk.cells (hB16.ext hu)) 3 rfl)).mono ?_; rintro _ _ ⟨rfl, rfl⟩
    exact ⟨fun _ => rfl, Ext.refl _⟩
  refine RW_d _ rfl (fun v => by dsimp only [List.set]; try rfl) (fun u hu hF => ?_) (fun v37 => ?_)
  · have h14_ : β1 = true → v33 = (Fl r1) := hF.1
    have h17_ : β1 = true → v36 = (Fl r7) := hF.2.1
    have h11_ : v30 = (Bo β1) := hF.2.2.1
    clear hF
    obtain rfl := h11_
    refine doesG_g (b := β1) rfl (yld rfl rfl) (fun hg1 => ?_) (fun hc => ⟨fun hg1 => absurd hg1 hc, Ext.refl _⟩)
    obtain rfl := h14_ hg1
    obtain rfl := h17_ hg1
    refine (does_fcmp (.inr (.inr (.inr (.inl rfl)))) (ev rfl) (ev rfl)).mono ?_; rintro _ _ ⟨rfl, rfl⟩
    exact ⟨fun _ => (by first | rfl | (show _ = _; simp only [hβ2]; done) | (show _ = _; simp only [hβ2]; rfl)), Ext.refl _⟩
  refine RW_d _ rfl (fun v => by dsimp only [List.set]; try rfl) (fun u hu hF => ?_) (fun v38 => ?_)
  · have h11_ : v30 = (Bo β1) := hF.1
    have h18_ : β1 = true → v37 = (Bo β2) := hF.2.1
    clear hF
    refine doesG_un rfl ?_
    skip
    obtain rfl := h11_
    refine (does_pick (b := β1) (u := v37) (v := (Bo false)) (ev rfl) (ev rfl) (ev rfl)).mono ?_; rintro _ _ ⟨rfl, rfl⟩; refine ⟨?_, Ext.refl _⟩; skip
    cases hbb : β1
    all_goals first | (show _ = _; simp only [↓reduceIte, Bool.true_and, Bool.false_and, Bool.true_or, Bool.false_or, Bool.false_eq_true]; done) | (have e_ := h18_ hbb; subst e_; show _ = _; simp only [↓reduceIte, Bool.true_and, Bool.false_and, Bool.true_or, Bool.false_or, Bool.false_eq_true]; done) | rfl | (have e_ := h18_ hbb; subst e_; rfl) | (simp [hbb] at h18_ ⊢; first | done | rfl | (subst h18_; rfl) | simp_all) | (simp [hbb] at h18_ ⊢; done)
  refine RW_d _ rfl (fun v => by dsimp only [List.set]; try rfl) (fun u hu hF => ?_) (fun v39 => ?_)
  · have h19_ : v38 = (Bo (β1 && β2)) := hF.1
    clear hF
    refine doesG_un rfl ?_
    obtain rfl := h19_
    refine (does_move (u := (Bo (β1 && β2))) (ev rfl)).mono ?_; rintro _ _ ⟨rfl, rfl⟩
    exact ⟨rfl, Ext.refl _⟩
  refine RW_d _ rfl (fun v => by dsimp only [List.set]; try rfl) (fun u hu hF => ?_) (fun v40 => ?_)
  · have h20_ : v39 = (Bo (β1 && β2)) := hF.1
    clear hF
    obtain rfl := h20_
    refine doesG_g (b := (β1 && β2)) rfl (yld rfl rfl) (fun hg1 => ?_) (fun hc => ⟨fun hg1 => absurd hg1 hc, Ext.refl _⟩)
    refine (does_fieldAddr (ev rfl) fa29_0).mono ?_; rintro _ _ ⟨rfl, rfl⟩
    exact ⟨fun _ => rfl, Ext.refl _⟩
  refine RW_d _ rfl (fun v => by dsimp only [List.set]; try rfl) (fun u hu hF => ?_) (fun v41 => ?_)
  · have h21_ : (β1 && β2) = true → v40 = (Pt b14 0) := hF.1
    have h20_ : v39 = (Bo (β1 && β2)) := hF.2.1
    clear hF
    obtain rfl := h20_
    refine doesG_g (b := (β1 && β2)) rfl (yld rfl rfl) (fun hg1 => ?_) (fun hc => ⟨fun hg1 => absurd hg1 hc, Ext.refl _⟩)
    obtain rfl := h21_ hg1
    refine (does_fieldAddr (ev rfl) fa27_1).mono ?_; rintro _ _ ⟨rfl, rfl⟩
    exact ⟨fun _ => rfl, Ext.refl _⟩
  refine RW_d _ rfl (fun v => by dsimp only [List.set]; try rfl) (fun u hu hF => ?_) (fun v42 => ?_)
  · have h22_ : (β1 && β2) = true → v41 = (Pt b14 1) := hF.1
    have h20_ : v39 = (Bo (β1 && β2)) := hF.2.1
    clear hF
    obtain rfl := h20_
    refine doesG_g (b := (β1 && β2)) rfl (yld rfl rfl) (fun hg1 => ?_) (fun hc => ⟨fun hg1 => absurd hg1 hc, Ext.refl _⟩)
    obtain rfl := h22_ hg1
    refine (does_load (u := (Fl r3)) (ev rfl) Try.isAgg22 (Cells.at (Blk.cells (hB16.ext hu)) 1 rfl)).mono ?_; rintro _ _ ⟨rfl, rfl⟩
    exact ⟨fun _ => rfl, Ext.refl _⟩
  refine RW_d _ rfl (fun v => by dsimp only [List.set]; try rfl) (fun u hu hF => ?_) (fun v43 => ?_)
  · have h20_ : v39 = (Bo (β1 && β2)) := hF.1
    clear hF
    obtain rfl := h20_
    refine doesG_g (b := (β1 && β2)) rfl (yld rfl rfl) (fun hg1 => ?_) (fun hc => ⟨fun hg1 => absurd hg1 hc, Ext.refl _⟩)
    refine (does_fieldAddr (ev rfl) fa29_1).mono ?_; rintro _ _ ⟨rfl, rfl⟩
    exact ⟨fun _ => rfl, Ext.refl _⟩
  refine RW_d _ rfl (fun v => by dsimp only [List.set]; try rfl) (fun u hu hF => ?_) (fun v44 => ?_)
  · have h24_ : (β1 && β2) = true → v43 = (Pt b14 3) := hF.1
    have h20_ : v39 = (Bo (β1 && β2)) := hF.2.1
    clear hF
    obtain rfl := h20_
    refine doesG_g (b := (β1 && β2)) rfl (yld rfl rfl) (fun hg1 => ?_) (fun hc => ⟨fun hg1 => absurd hg1 hc, Ext.refl _⟩)
    obtain rfl := h24_ hg1
    refine (does_fieldAddr (ev rfl) fa27_1).mono ?_; rintro _ _ ⟨rfl, rfl⟩
    exact ⟨fun _ => rfl, Ext.refl _⟩
  refine RW_d _ rfl (fun v => by dsimp only [List.set]; try rfl) (fun u hu hF => ?_) (fun v45 => ?_)
  · have h25_ : (β1 && β2) = true → v44 = (Pt b14 4) := hF.1
    have h20_ : v39 = (Bo (β1 && β2)) := hF.2.1
    clear hF
    obtain rfl := h20_
    refine doesG_g (b := (β1 && β2)) rfl (yld rfl rfl) (fun hg1 => ?_) (fun hc => ⟨fun hg1 => absurd hg1 hc, Ext.refl _⟩)
    obtain rfl := h25_ hg1
    refine (does_load (u := (Fl r9)) (ev rfl) Try.isAgg22 (Cells.at (Blk.cells (hB16.ext hu)) 4 rfl)).mono ?_; rintro _ _ ⟨rfl, rfl⟩
    exact ⟨fun _ => rfl, Ext.refl _⟩
  refine RW_d _ rfl (fun v => by dsimp only [List.set]; try rfl) (fun u hu hF => ?_) (fun v46 => ?_)
  · have h23_ : (β1 && β2) = true → v42 = (Fl r3) := hF.1
    have h26_ : (β1 && β2) = true → v45 = (Fl r9) := hF.2.1
    have h20_ : v39 = (Bo (β1 && β2)) := hF.2.2.1
    clear hF
    obtain rfl := h20_
    refine doesG_g (b := (β1 && β2)) rfl (yld rfl rfl) (fun hg1 => ?_) (fun hc => ⟨fun hg1 => absurd hg1 hc, Ext.refl _⟩)
    obtain rfl := h23_ hg1
    obtain rfl := h26_ hg1
    refine (does_fcmp (.inr (.inr (.inr (.inl rfl)))) (ev rfl) (ev rfl)).mono ?_; rintro _ _ ⟨rfl, rfl⟩
    exact ⟨fun _ => (by first | rfl | (show _ = _; simp only [hβ3]; done) | (show _ = _; simp only [hβ3]; rfl)), Ext.refl _⟩
  refine RW_d _ rfl (fun v => by dsimp only [List.set]; try rfl) (fun u hu hF => ?_) (fun v47 => ?_)
  · have h20_ : v39 = (Bo (β1 && β2)) := hF.1
    have h27_ : (β1 && β2) = true → v46 = (Bo β3) := hF.2.1
    clear hF
    refine doesG_un rfl ?_
    skip
    obtain rfl := h20_
    refine (does_pick (b := (β1 && β2)) (u := v46) (v := (Bo false)) (ev rfl) (ev rfl) (ev rfl)).mono ?_; rintro _ _ ⟨rfl, rfl⟩; refine ⟨?_, Ext.refl _⟩; skip
    cases hbb : (β1 && β2)
    all_goals first | (show _ = _; simp only [↓reduceIte, Bool.true_and, Bool.false_and, Bool.true_or, Bool.false_or, Bool.false_eq_true]; done) | (have e_ := h27_ hbb; subst e_; show _ = _; simp only [↓reduceIte, Bool.true_and, Bool.false_and, Bool.true_or, Bool.false_or, Bool.false_eq_true]; done) | rfl | (have e_ := h27_ hbb; subst e_; rfl) | (simp [hbb] at h27_ ⊢; first | done | rfl | (subst h27_; rfl) | simp_all) | (simp [hbb] at h27_ ⊢; done)
  refine RW_d _ rfl (fun v => by dsimp only [List.set]; try rfl) (fun u hu hF => ?_) (fun v48 => ?_)
  · have h28_ : v47 = (Bo ((β1 && β2) && β3)) := hF.1
    clear hF
    refine doesG_un rfl ?_
    obtain rfl := h28_
    refine (does_move (u := (Bo ((β1 && β2) && β3))) (ev rfl)).mono ?_; rintro _ _ ⟨rfl, rfl⟩
    exact ⟨rfl, Ext.refl _⟩
  refine RW_d _ rfl (fun v => by dsimp only [List.set]; try rfl) (fun u hu hF => ?_) (fun v49 => ?_)
  · have h29_ : v48 = (Bo ((β1 && β2) && β3)) := hF.1
    clear hF
    obtain rfl := h29_
    refine doesG_g (b := ((β1 && β2) && β3)) rfl (yld rfl rfl) (fun hg1 => ?_) (fun hc => ⟨fun hg1 => absurd hg1 hc, Ext.refl _⟩)
    refine (does_fieldAddr (ev rfl) fa29_0).mono ?_; rintro _ _ ⟨rfl, rfl⟩
    exact ⟨fun _ => rfl, Ext.refl _⟩
  refine RW_d _ rfl (fun v => by dsimp only [List.set]; try rfl) (fun u hu hF => ?_) (fun v50 => ?_)
  · have h30_ : ((β1 && β2) && β3) = true → v49 = (Pt b14 0) := hF.1
    have h29_ : v48 = (Bo ((β1 && β2) && β3)) := hF.2.1
    clear hF
    obtain rfl := h29_
    refine doesG_g (b := ((β1 && β2) && β3)) rfl (yld rfl rfl) (fun hg1 => ?_) (fun hc => ⟨fun hg1 => absurd hg1 hc, Ext.refl _⟩)
    obtain rfl := h30_ hg1
    refine (does_fieldAddr (ev rfl) fa27_2).mono ?_; rintro _ _ ⟨rfl, rfl⟩
    exact ⟨fun _ => rfl, Ext.refl _⟩
  refine RW_d _ rfl (fun v => by dsimp only [List.set]; try rfl) (fun u hu hF => ?_) (fun v51 => ?_)
  · have h31_ : ((β1 && β2) && β3) = true → v50 = (Pt b14 2) := hF.1
    have h29_ : v48 = (Bo ((β1 && β2) && β3)) := hF.2.1
    clear hF
    obtain rfl := h29_
    refine doesG_g (b := ((β1 && β2) && β3)) rfl (yld rfl rfl) (fun hg1 => ?_) (fun hc => ⟨fun hg1 => absurd hg1 hc, Ext.refl _⟩)
    obtain rfl := h31_ hg1
    refine (does_load (u := (Fl r5)) (ev rfl) Try.isAgg22 (Cells.at (Blk.cells (hB16.ext hu)) 2 rfl)).mono ?_; rintro _ _ ⟨rfl, rfl⟩
    exact ⟨fun _ => rfl, Ext.refl _⟩
  refine RW_d _ rfl (fun v => by dsimp only [List.set]; try rfl) (fun u hu hF => ?_) (fun v52 => ?_)
  · have h29_ : v48 = (Bo ((β1 && β2) && β3)) := hF.1
    clear hF
    obtain rfl := h29_
    refine doesG_g (b := ((β1 && β2) && β3)) rfl (yld rfl rfl) (fun hg1 => ?_) (fun hc => ⟨fun hg1 => absurd hg1 hc, Ext.refl _⟩)
    refine (does_fieldAddr (ev rfl) fa29_1).mono ?_; rintro _ _ ⟨rfl, rfl⟩
    exact ⟨fun _ => rfl, Ext.refl _⟩
  refine RW_d _ rfl (fun v => by dsimp only [List.set]; try rfl) (fun u hu hF => ?_) (fun v53 => ?_)
  · have h33_ : ((β1 && β2) && β3) = true → v52 = (Pt b14 3) := hF.1
    have h29_ : v48 = (Bo ((β1 && β2) && β3)) := hF.2.1
    clear hF
    obtain rfl := h29_
    refine doesG_g (b := ((β1 && β2) && β3)) rfl (yld rfl rfl) (fun hg1 => ?_) (fun hc => ⟨fun hg1 => absurd hg1 hc, Ext.refl _⟩)
    obtain rfl := h33_ hg1
    refine (does_fieldAddr (ev rfl) fa27_2).mono ?_; rintro _ _ ⟨rfl, rfl⟩
    exact ⟨fun _ => rfl, Ext.refl _⟩
  refine RW_d _ rfl (fun v => by dsimp only [List.set]; try rfl) (fun u hu hF => ?_) (fun v54 => ?_)
  · have h34_ : ((β1 && β2) && β3) = true → v53 = (Pt b14 5) := hF.1
    have h29_ : v48 = (Bo ((β1 && β2) && β3)) := hF.2.1
    clear hF
    obtain rfl := h29_
    refine doesG_g (b := ((β1 && β2) && β3)) rfl (yld rfl rfl) (fun hg1 => ?_) (fun hc => ⟨fun hg1 => absurd hg1 hc, Ext.refl _⟩)
    obtain rfl := h34_ hg1
    refine (does_load (u := (Fl r11)) (ev rfl) Try.isAgg22 (Cells.at (Blk.cells (hB16.ext hu)) 5 rfl)).mono ?_; rintro _ _ ⟨rfl, rfl⟩
    exact ⟨fun _ => rfl, Ext.refl _⟩
  refine RW_d _ rfl (fun v => by dsimp only [List.set]; try rfl) (fun u hu hF => ?_) (fun v55 => ?_)
  · have h32_ : ((β1 && β2) && β3) = true → v51 = (Fl r5) := hF.1
    have h35_ : ((β1 && β2) && β3) = true → v54 = (Fl r11) := hF.2.1
    have h29_ : v48 = (Bo ((β1 && β2) && β3)) := hF.2.2.1
    clear hF
    obtain rfl := h29_
    refine doesG_g (b := ((β1 && β2) && β3)) rfl (yld rfl rfl) (fun hg1 => ?_) (fun hc => ⟨fun hg1 => absurd hg1 hc, Ext.refl _⟩)
    obtain rfl := h32_ hg1
    obtain rfl := h35_ hg1
    refine (does_fcmp (.inr (.inr (.inr (.inl rfl)))) (ev rfl) (ev rfl)).mono ?_; rintro _ _ ⟨rfl, rfl⟩
    exact ⟨fun _ => (by first | rfl | (show _ = _; simp only [hβ4]; done) | (show _ = _; simp only [hβ4]; rfl)), Ext.refl _⟩
  refine RW_d _ rfl (fun v => by dsimp only [List.set]; try rfl) (fun u hu hF => ?_) (fun v56 => ?_)
  · have h29_ : v48 = (Bo ((β1 && β2) && β3)) := hF.1
    have h36_ : ((β1 && β2) && β3) = true → v55 = (Bo β4) := hF.2.1
    clear hF
    refine doesG_un rfl ?_
    skip
    obtain rfl := h29_
    refine (does_pick (b := ((β1 && β2) && β3)) (u := v55) (v := (Bo false)) (ev rfl) (ev rfl) (ev rfl)).mono ?_; rintro _ _ ⟨rfl, rfl⟩; refine ⟨?_, Ext.refl _⟩; skip
    cases hbb : ((β1 && β2) && β3)
    all_goals first | (show _ = _; simp only [↓reduceIte, Bool.true_and, Bool.false_and, Bool.true_or, Bool.false_or, Bool.false_eq_true]; done) | (have e_ := h36_ hbb; subst e_; show _ = _; simp only [↓reduceIte, Bool.true_and, Bool.false_and, Bool.true_or, Bool.false_or, Bool.false_eq_true]; done) | rfl | (have e_ := h36_ hbb; subst e_; rfl) | (simp [hbb] at h36_ ⊢; first | done | rfl | (subst h36_; rfl) | simp_all) | (simp [hbb] at h36_ ⊢; done)
  refine RW_fin ?_; intro w57 E58 hP59
  obtain ⟨⟨⟨⟨⟨⟨⟨⟨⟨⟨⟨⟨⟨⟨⟨⟨⟨⟨⟨⟨⟨⟨⟨⟨⟨⟨⟨⟨⟨⟨⟨⟨⟨⟨⟨-, -⟩, -⟩, -⟩, -⟩, -⟩, -⟩, -⟩, -⟩, -⟩, -⟩, -⟩, -⟩, -⟩, -⟩, -⟩, -⟩, -⟩, -⟩, -⟩, -⟩, -⟩, -⟩, -⟩, -⟩, -⟩, -⟩, -⟩, -⟩, -⟩, -⟩, -⟩, -⟩, -⟩, -⟩, q60⟩ := hP59
  have X61 := Ext.gr X20 E58
  have q60 : v56 = (Bo (((β1 && β2) && β3) && β4)) := q60
  obtain rfl := q60
  show wpList _ _ _ _ (fr [_, _, _, _, _, _, _, _, _, _, _, _, _, _, _, _, _, _, _, _, _, _, _, _, _, _, _, _, _, _, _, _, _, _, _, _, _, _]) _
  refine q_is rfl rfl (does_assign (u := (Bo (((β1 && β2) && β3) && β4))) (ev rfl)) (by dsimp only [List.set]; try rfl) ?_
  refine wpList_nil (hK21 _ _ ?_)
  refine wp_ret ?_
  refine ret_val (v := (Bo (((β1 && β2) && β3) && β4))) (res_T rfl (slot rfl)) X61 ?_
  have x62 : (isBox A_b) = (((β1 && β2) && β3) && β4) := by first | with_reducible rfl | (simp only [isBox, h2, h4, h6, h8, h10, h12, hβ1, hβ2, hβ3, hβ4]; done) | (simp [isBox, h2, h4, h6, h8, h10, h12, hβ1, hβ2, hβ3, hβ4]; done) | rfl
  exact (by first | with_reducible rfl | rw [x62] | rfl)

/- impl.coordinates -/
theorem c_impl_coordinates (p : List Value) (A_p : V3) (w : World) (hv_p : RV3 w A_p p) : Gives Try.prog 12 #[(.agg p.toArray)] w (fun v w' => ∃ r_1 : Nat, ∃ r_2 : Nat, ∃ r_3 : Nat, v = (.agg #[(Fl r_1), (Fl r_2), (Fl r_3)]) ∧ cf .f32 r_1 = A_p.x ∧ cf .f32 r_2 = A_p.y ∧ cf .f32 r_3 = A_p.z) := by
  obtain ⟨r1, r3, r5, rfl, h2, h4, h6⟩ := hv_p
  refine enter [(.agg #[(Fl r1), (Fl r3), (Fl r5)]), Ud, Ud, Ud, Ud, Ud, Ud, Ud, Ud, Ud] Try.func12 rfl Try.ntmps12 rfl ?_
  refine wp_seq_k fun K7 hK7 => ?_
  refine wp_region_lit ?_
  refine seqd rfl rfl (does_box (u := (.agg #[(Fl r1), (Fl r3), (Fl r5)])) (ev rfl)) ?_; rintro _ w12 ⟨b8, rfl, hb9, hB10, E11⟩
  have g13 : w.heap.size ≤ b8 := Nat.le_trans (Below.size (Ext.refl w)) hb9
  change Blk _ _ [(Fl r1), (Fl r3), (Fl r5)] at hB10
  have X14 := Ext.gr (Ext.refl w) E11
  show wpList _ _ _ _ (fr [(.agg #[(Fl r1), (Fl r3), (Fl r5)]), (Pt b8 0), Ud, Ud, Ud, Ud, Ud, Ud, Ud, Ud]) _
  refine seqd rfl rfl (does_alloc z41) ?_; rintro _ w19 ⟨b15, rfl, hb16, hB17, E18⟩
  have n20 : b8 < b15 := Nat.lt_of_lt_of_le (Blk.lt hB10) hb16
  have g21 : w.heap.size ≤ b15 := Nat.le_trans (Below.size X14) hb16
  change Blk _ _ [(Fl 0), (Fl 0), (Fl 0)] at hB17
  have X22 := Ext.gr X14 E18
  show wpList _ _ _ _ (fr [(.agg #[(Fl r1), (Fl r3), (Fl r5)]), (Pt b8 0), (Pt b15 0), Ud, Ud, Ud, Ud, Ud, Ud, Ud]) _
  refine wpList_nil (hK7 _ _ ?_)
  refine wp_seq_k fun K23 hK23 => ?_
  refine wp_region_lit ?_
  refine q_is (l' := [(.agg #[(Fl r1), (Fl r3), (Fl r5)]), (Pt b8 0), (Pt b15 0), (Pt b8 0), Ud, Ud, Ud, Ud, Ud, Ud]) rfl rfl (does_fieldAddr (ev rfl) fa27_0) rfl ?_
  refine q_is (l' := [(.agg #[(Fl r1), (Fl r3), (Fl r5)]), (Pt b8 0), (Pt b15 0), (Pt b8 0), (Fl r1), Ud, Ud, Ud, Ud, Ud]) rfl rfl (does_load (u := (Fl r1)) (ev rfl) Try.isAgg22 (Cells.at (Blk.cells (hB10.ext E18)) 0 rfl)) rfl ?_
  refine q_is (l' := [(.agg #[(Fl r1), (Fl r3), (Fl r5)]), (Pt b8 0), (Pt b15 0), (Pt b8 0), (Fl r1), (Pt b8 1), Ud, Ud, Ud, Ud]) rfl rfl (does_fieldAddr (ev rfl) fa27_1) rfl ?_
  refine q_is (l' := [(.agg #[(Fl r1), (Fl r3), (Fl r5)]), (Pt b8 0), (Pt b15 0), (Pt b8 0), (Fl r1), (Pt b8 1), (Fl r3), Ud, Ud, Ud]) rfl rfl (does_load (u := (Fl r3)) (ev rfl) Try.isAgg22 (Cells.at (Blk.cells (hB10.ext E18)) 1 rfl)) rfl ?_
  refine q_is (l' := [(.agg #[(Fl r1), (Fl r3), (Fl r5)]), (Pt b8 0), (Pt b15 0), (Pt b8 0), (Fl r1), (Pt b8 1), (Fl r3), (Pt b8 2), Ud, Ud]) rfl rfl (does_fieldAddr (ev rfl) fa27_2) rfl ?_
  refine q_is (l' := [(.agg #[(Fl r1), (Fl r3), (Fl r5)]), (Pt b8 0), (Pt b15 0), (Pt b8 0), (Fl r1), (Pt b8 1), (Fl r3), (Pt b8 2), (Fl r5), Ud]) rfl rfl (does_load (u := (Fl r5)) (ev rfl) Try.isAgg22 (Cells.at (Blk.cells (hB10.ext E18)) 2 rfl)) rfl ?_
  refine q_is (l' := [(.agg #[(Fl r1), (Fl r3), (Fl r5)]), (Pt b8 0), (Pt b15 0), (Pt b8 0), (Fl r1), (Pt b8 1), (Fl r3), (Pt b8 2), (Fl r5), (.agg #[(Fl r1), (Fl r3), (Fl r5)])]) rfl rfl (does_build (parts' := [(0, (Fl r1)), (1, (Fl r3)), (2, (Fl r5))]) (cells := #[(Fl r1), (Fl r3), (Fl r5)]) (evp rfl) (by kernel_rfl)) rfl ?_
  refine seqn rfl rfl (does_store (n := 3) (cs := [(Fl 0), (Fl 0), (Fl 0)]) (u := (.agg #[(Fl r1), (Fl r3), (Fl r5)])) (ev rfl) (ev rfl) Try.sizeOf41 rfl hB17 (Nat.le_of_ble_eq_true rfl) rfl) ?_; rintro _ w26 ⟨rfl, W24, hB25⟩
  change Blk _ _ [(Fl r1), (Fl r3), (Fl r5)] at hB25
  have X27 := Below.wr X22 W24 g21
  refine wpList_nil (hK23 _ _ ?_)
  refine wp_ret ?_
  refine ret_val (v := (.agg #[(Fl r1), (Fl r3), (Fl r5)])) (res_C rfl (slot rfl) (run_loadAgg (cs := [(Fl r1), (Fl r3), (Fl r5)]) Try.isAgg41 Try.sizeOf41 (Blk.cells hB25) rfl)) X27 ?_
  have x28 : cf .f32 r1 = A_p.x := by first | with_reducible rfl | (simp only [h2, h4, h6]; done) | (simp [h2, h4, h6]; done) | rfl
  have x29 : cf .f32 r3 = A_p.y := by first | with_reducible rfl | (simp only [h2, h4, h6]; done) | (simp [h2, h4, h6]; done) | rfl
  have x30 : cf .f32 r5 = A_p.z := by first | with_reducible rfl | (simp only [h2, h4, h6]; done) | (simp [h2, h4, h6]; done) | rfl
  exact ⟨r1, r3, r5, rfl, x28, x29, x30⟩

/- impl.vectorOf -/
theorem c_impl_vectorOf (va : Nat) (vb : Nat) (vc : Nat) (w : World) : Gives Try.prog 13 #[(.agg #[(Fl va), (Fl vb), (Fl vc)])] w (fun v w' => ∃ cs_1 : List Value, v = (.agg cs_1.toArray) ∧ RV3 w (V3.mk (cf .f32 va) (cf .f32 vb) (cf .f32 vc)) cs_1) := by
  refine enter [(.agg #[(Fl va), (Fl vb), (Fl vc)]), Ud, Ud, Ud, Ud, Ud, Ud, Ud, Ud, Ud] Try.func13 rfl Try.ntmps13 rfl ?_
  refine wp_seq_k fun K1 hK1 => ?_
  refine wp_region_lit ?_
  refine seqd rfl rfl (does_box (u := (.agg #[(Fl va), (Fl vb), (Fl vc)])) (ev rfl)) ?_; rintro _ w6 ⟨b2, rfl, hb3, hB4, E5⟩
  have g7 : w.heap.size ≤ b2 := Nat.le_trans (Below.size (Ext.refl w)) hb3
  change Blk _ _ [(Fl va), (Fl vb), (Fl vc)] at hB4
  have X8 := Ext.gr (Ext.refl w) E5
  show wpList _ _ _ _ (fr [(.agg #[(Fl va), (Fl vb), (Fl vc)]), (Pt b2 0), Ud, Ud, Ud, Ud, Ud, Ud, Ud, Ud]) _
  refine seqd rfl rfl (does_alloc z27) ?_; rintro _ w13 ⟨b9, rfl, hb10, hB11, E12⟩
  have n14 : b2 < b9 := Nat.lt_of_lt_of_le (Blk.lt hB4) hb10
  have g15 : w.heap.size ≤ b9 := Nat.le_trans (Below.size X8) hb10
  change Blk _ _ [(Fl 0), (Fl 0), (Fl 0)] at hB11
  have X16 := Ext.gr X8 E12
  show wpList _ _ _ _ (fr [(.agg #[(Fl va), (Fl vb), (Fl vc)]), (Pt b2 0), (Pt b9 0), Ud, Ud, Ud, Ud, Ud, Ud, Ud]) _
  refine wpList_nil (hK1 _ _ ?_)
  refine wp_seq_k fun K17 hK17 => ?_
  refine wp_region_lit ?_
  refine q_is (l' := [(.agg #[(Fl va), (Fl vb), (Fl vc)]), (Pt b2 0), (Pt b9 0), (Pt b2 0), Ud, Ud, Ud, Ud, Ud, Ud]) rfl rfl (does_indexAt_run (r := (Pt b2 0)) (ev rfl) (ev rfl) (fun w => ia41_0 _ _ w)) rfl ?_
  refine q_is (l' := [(.agg #[(Fl va), (Fl vb), (Fl vc)]), (Pt b2 0), (Pt b9 0), (Pt b2 0), (Fl va), Ud, Ud, Ud, Ud, Ud]) rfl rfl (does_load (u := (Fl va)) (ev rfl) Try.isAgg22 (Cells.at (Blk.cells (hB4.ext E12)) 0 rfl)) rfl ?_
  refine q_is (l' := [(.agg #[(Fl va), (Fl vb), (Fl vc)]), (Pt b2 0), (Pt b9 0), (Pt b2 0), (Fl va), (Pt b2 1), Ud, Ud, Ud, Ud]) rfl rfl (does_indexAt_run (r := (Pt b2 1)) (ev rfl) (ev rfl) (fun w => ia41_1 _ _ w)) rfl ?_
  refine q_is (l' := [(.agg #[(Fl va), (Fl vb), (Fl vc)]), (Pt b2 0), (Pt b9 0), (Pt b2 0), (Fl va), (Pt b2 1), (Fl vb), Ud, Ud, Ud]) rfl rfl (does_load (u := (Fl vb)) (ev rfl) Try.isAgg22 (Cells.at (Blk.cells (hB4.ext E12)) 1 rfl)) rfl ?_
  refine q_is (l' := [(.agg #[(Fl va), (Fl vb), (Fl vc)]), (Pt b2 0), (Pt b9 0), (Pt b2 0), (Fl va), (Pt b2 1), (Fl vb), (Pt b2 2), Ud, Ud]) rfl rfl (does_indexAt_run (r := (Pt b2 2)) (ev rfl) (ev rfl) (fun w => ia41_2 _ _ w)) rfl ?_
  refine q_is (l' := [(.agg #[(Fl va), (Fl vb), (Fl vc)]), (Pt b2 0), (Pt b9 0), (Pt b2 0), (Fl va), (Pt b2 1), (Fl vb), (Pt b2 2), (Fl vc), Ud]) rfl rfl (does_load (u := (Fl vc)) (ev rfl) Try.isAgg22 (Cells.at (Blk.cells (hB4.ext E12)) 2 rfl)) rfl ?_
  refine q_is (l' := [(.agg #[(Fl va), (Fl vb), (Fl vc)]), (Pt b2 0), (Pt b9 0), (Pt b2 0), (Fl va), (Pt b2 1), (Fl vb), (Pt b2 2), (Fl vc), (.agg #[(Fl va), (Fl vb), (Fl vc)])]) rfl rfl (does_build (parts' := [(0, (Fl va)), (1, (Fl vb)), (2, (Fl vc))]) (cells := #[(Fl va), (Fl vb), (Fl vc)]) (evp rfl) (by kernel_rfl)) rfl ?_
  refine seqn rfl rfl (does_store (n := 3) (cs := [(Fl 0), (Fl 0), (Fl 0)]) (u := (.agg #[(Fl va), (Fl vb), (Fl vc)])) (ev rfl) (ev rfl) Try.sizeOf27 rfl hB11 (Nat.le_of_ble_eq_true rfl) rfl) ?_; rintro _ w20 ⟨rfl, W18, hB19⟩
  change Blk _ _ [(Fl va), (Fl vb), (Fl vc)] at hB19
  have X21 := Below.wr X16 W18 g15
  refine wpList_nil (hK17 _ _ ?_)
  refine wp_ret ?_
  refine ret_val (v := (.agg #[(Fl va), (Fl vb), (Fl vc)])) (res_C rfl (slot rfl) (run_loadAgg (cs := [(Fl va), (Fl vb), (Fl vc)]) Try.isAgg27 Try.sizeOf27 (Blk.cells hB19) rfl)) X21 ?_
  have x22 : cf .f32 va = (V3.mk (cf .f32 va) (cf .f32 vb) (cf .f32 vc)).x := by first | with_reducible rfl | (simp only []; done) | (simp []; done) | rfl
  have x23 : cf .f32 vb = (V3.mk (cf .f32 va) (cf .f32 vb) (cf .f32 vc)).y := by first | with_reducible rfl | (simp only []; done) | (simp []; done) | rfl
  have x24 : cf .f32 vc = (V3.mk (cf .f32 va) (cf .f32 vb) (cf .f32 vc)).z := by first | with_reducible rfl | (simp only []; done) | (simp []; done) | rfl
  exact ⟨[(Fl va), (Fl vb), (Fl vc)], rfl, ⟨va, vb, vc, rfl, x22, x23, x24⟩⟩

end Go.Proofs.Ythffielpjjggeaa
