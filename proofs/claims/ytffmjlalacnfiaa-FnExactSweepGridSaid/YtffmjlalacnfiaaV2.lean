/- contracts of functions, each walked once -/
import Derived.Test.YtffmjlalacnfiaaV
namespace Go.Proofs.Ytffmjlalacnfiaa
open Go Go.RowKit
set_option maxRecDepth 100000
set_option maxHeartbeats 3200000
set_option linter.unusedVariables false
set_option linter.unusedSimpArgs false

/- slices.IndexFunc[[]float32,float32] -/
theorem c_slices_IndexFunc_float32_float32 (xs : Value) (L_xs : List Nat) (f : Value) (pr_f : Nat → Bool) (w : World) (hv_xs : Sl RF 1 w xs L_xs) (hv_f : TellsF Try.prog f w pr_f) : Gives Try.prog 63 #[xs, f] w (fun v w' => v = (Iv (findI pr_f L_xs))) := by
  have hlen_xs := Sl.len hv_xs; obtain ⟨p_xs, q_xs, rfl⟩ := Sl.shape hv_xs
  obtain ⟨f_f, s_f, c_f, rfl, hcal_f, hg_f⟩ := hv_f
  refine enter [(.slice p_xs L_xs.length q_xs), (.func (.func f_f) s_f c_f), Ud, Ud, Ud, Ud, Ud, Ud, Ud, Ud, Ud, Ud, Ud, Ud, Ud, Ud, Ud, Ud, Ud] Try.func63 rfl Try.ntmps63 rfl ?_
  refine wp_seq_k fun K1 hK1 => ?_
  refine wp_region_lit ?_
  refine q_is (l' := [(.slice p_xs L_xs.length q_xs), (.func (.func f_f) s_f c_f), Ud, Ud, (Iv 0), Ud, Ud, Ud, Ud, Ud, Ud, Ud, Ud, Ud, Ud, Ud, Ud, Ud, Ud]) rfl rfl (does_assign (u := (Iv 0)) (ev rfl)) rfl ?_
  refine wpList_nil (hK1 _ _ ?_)
  refine wp_seq_k fun K2 hK2 => ?_
  refine wp_seq_k fun K3 hK3 => ?_
  refine wp_region_lit ?_
  refine q_is (l' := [(.slice p_xs L_xs.length q_xs), (.func (.func f_f) s_f c_f), Ud, Ud, (Iv 0), Ud, (.slice p_xs L_xs.length q_xs), Ud, Ud, Ud, Ud, Ud, Ud, Ud, Ud, Ud, Ud, Ud, Ud]) rfl rfl (does_move (u := (.slice p_xs L_xs.length q_xs)) (ev rfl)) rfl ?_
  refine q_is (l' := [(.slice p_xs L_xs.length q_xs), (.func (.func f_f) s_f c_f), Ud, Ud, (Iv 0), Ud, (.slice p_xs L_xs.length q_xs), (Iv (L_xs.length : Int)), Ud, Ud, Ud, Ud, Ud, Ud, Ud, Ud, Ud, Ud, Ud]) rfl rfl (does_len_slice Try.underlying25 (ev rfl)) rfl ?_
  refine q_is (l' := [(.slice p_xs L_xs.length q_xs), (.func (.func f_f) s_f c_f), Ud, Ud, (Iv 0), Ud, (.slice p_xs L_xs.length q_xs), (Iv (L_xs.length : Int)), (Iv 0), Ud, Ud, Ud, Ud, Ud, Ud, Ud, Ud, Ud, Ud]) rfl rfl (does_move (u := (Iv 0)) (ev rfl)) rfl ?_
  refine wpList_nil (hK3 _ _ ?_)
  refine wp_block ?_
  refine loop_ghost (σ := Nat) (fun k a w' => ∃ u4 : Nat → Value, a = fr [(.slice p_xs L_xs.length q_xs), (.func (.func f_f) s_f c_f), Ud, Ud, (u4 4), (u4 5), (.slice p_xs L_xs.length q_xs), (Iv (L_xs.length : Int)), (Iv (k : Int)), (u4 9), (u4 10), (u4 11), (u4 12), (u4 13), (u4 14), (u4 15), (u4 16), (u4 17), (u4 18)] ∧ Ext w w' ∧ (k ≤ L_xs.length ∧ NoneTo pr_f L_xs k)) (fun k => L_xs.length - k) 0 ?_ ?_
  · refine ⟨fun t => (([(.slice p_xs L_xs.length q_xs), (.func (.func f_f) s_f c_f), Ud, Ud, (Iv 0), Ud, (.slice p_xs L_xs.length q_xs), (Iv (L_xs.length : Int)), (Iv 0), Ud, Ud, Ud, Ud, Ud, Ud, Ud, Ud, Ud, Ud] : List Value)[t]?).getD undef, rfl, Ext.refl _, ?_⟩
    exact ⟨Nat.zero_le _, NoneTo.zero⟩
  · rintro k a w5 ⟨u4, rfl, E6, ⟨hk, hno⟩⟩
    have X8 := Ext.gr (Ext.refl w) E6
    refine wp_seq_k fun K9 hK9 => ?_
    refine wp_region_lit ?_
    refine q_is (l' := [(.slice p_xs L_xs.length q_xs), (.func (.func f_f) s_f c_f), Ud, Ud, (u4 4), (u4 5), (.slice p_xs L_xs.length q_xs), (Iv (L_xs.length : Int)), (Iv (k : Int)), (Bo (icmp .lss (k : Int) (L_xs.length : Int))), (u4 10), (u4 11), (u4 12), (u4 13), (u4 14), (u4 15), (u4 16), (u4 17), (u4 18)]) rfl rfl (does_icmp (p := (k : Int)) (q := (L_xs.length : Int)) (.inr (.inr (.inl rfl))) (ev rfl) (ev rfl)) rfl ?_
    refine wpList_nil (hK9 _ _ ?_)
    refine wp_seq_k fun K10 hK10 => ?_
    refine wp_cond_split (t := icmp .lss (k : Int) (L_xs.length : Int)) (ev rfl) (fun c11 => ?_) (fun c11 => ?_)
    · have c11' := c11
      (try simp only [icmp, Bool.and_eq_true, Bool.or_eq_true, Bool.and_eq_false_iff, Bool.or_eq_false_iff, Bool.not_eq_true', Bool.not_eq_false', decide_eq_true_eq, decide_eq_false_iff_not, beq_iff_eq, bne_iff_ne, beq_eq_false_iff_ne, bne_eq_false_iff_eq] at c11')
      refine wp_skip (hK10 _ _ ?_)
      refine wp_seq_k fun K12 hK12 => ?_
      refine wp_block ?_
      refine wp_seq_k fun K13 hK13 => ?_
      refine wp_region_lit ?_
      refine q_is (l' := [(.slice p_xs L_xs.length q_xs), (.func (.func f_f) s_f c_f), Ud, Ud, (u4 4), (u4 5), (.slice p_xs L_xs.length q_xs), (Iv (L_xs.length : Int)), (Iv (k : Int)), (Bo (icmp .lss (k : Int) (L_xs.length : Int))), (Iv (k : Int)), (u4 11), (u4 12), (u4 13), (u4 14), (u4 15), (u4 16), (u4 17), (u4 18)]) rfl rfl (does_move (u := (Iv (k : Int))) (ev rfl)) rfl ?_
      refine q_is (l' := [(.slice p_xs L_xs.length q_xs), (.func (.func f_f) s_f c_f), Ud, Ud, (u4 4), (Iv (k : Int)), (.slice p_xs L_xs.length q_xs), (Iv (L_xs.length : Int)), (Iv (k : Int)), (Bo (icmp .lss (k : Int) (L_xs.length : Int))), (Iv (k : Int)), (u4 11), (u4 12), (u4 13), (u4 14), (u4 15), (u4 16), (u4 17), (u4 18)]) rfl rfl (does_assign (u := (Iv (k : Int))) (ev rfl)) rfl ?_
      refine wpList_nil (hK13 _ _ ?_)
      refine wp_seq_k fun K14 hK14 => ?_
      refine wp_region_lit ?_
      refine q_is (l' := [(.slice p_xs L_xs.length q_xs), (.func (.func f_f) s_f c_f), Ud, Ud, (u4 4), (Iv (k : Int)), (.slice p_xs L_xs.length q_xs), (Iv (L_xs.length : Int)), (Iv (k : Int)), (Bo (icmp .lss (k : Int) (L_xs.length : Int))), (Iv (k : Int)), (.func (.func f_f) s_f c_f), (u4 12), (u4 13), (u4 14), (u4 15), (u4 16), (u4 17), (u4 18)]) rfl rfl (does_move (u := (.func (.func f_f) s_f c_f)) (ev rfl)) rfl ?_
      refine q_is (l' := [(.slice p_xs L_xs.length q_xs), (.func (.func f_f) s_f c_f), Ud, Ud, (u4 4), (Iv (k : Int)), (.slice p_xs L_xs.length q_xs), (Iv (L_xs.length : Int)), (Iv (k : Int)), (Bo (icmp .lss (k : Int) (L_xs.length : Int))), (Iv (k : Int)), (.func (.func f_f) s_f c_f), (.slice p_xs L_xs.length q_xs), (u4 13), (u4 14), (u4 15), (u4 16), (u4 17), (u4 18)]) rfl rfl (does_move (u := (.slice p_xs L_xs.length q_xs)) (ev rfl)) rfl ?_
      refine q_is (l' := [(.slice p_xs L_xs.length q_xs), (.func (.func f_f) s_f c_f), Ud, Ud, (u4 4), (Iv (k : Int)), (.slice p_xs L_xs.length q_xs), (Iv (L_xs.length : Int)), (Iv (k : Int)), (Bo (icmp .lss (k : Int) (L_xs.length : Int))), (Iv (k : Int)), (.func (.func f_f) s_f c_f), (.slice p_xs L_xs.length q_xs), (Iv (k : Int)), (u4 14), (u4 15), (u4 16), (u4 17), (u4 18)]) rfl rfl (does_move (u := (Iv (k : Int))) (ev rfl)) rfl ?_
      obtain ⟨el1, hel1⟩ : ∃ e, L_xs[k]? = some e := ⟨_, List.getElem?_eq_getElem (by omega)⟩
      refine seqd rfl rfl (does_indexSl (R := RF) (i := (k : Int)) (xs := L_xs) (e := el1) Try.underlying25 Try.sizeOf22 (ev rfl) (ev rfl) (Sl.ext hv_xs RF.mono X8) (by omega) hel1) ?_; rintro _ w5 ⟨b15, o16, _, rfl, hc18, ⟨r19, rfl, h20⟩, rfl⟩
      show wpList _ _ _ _ (fr [(.slice p_xs L_xs.length q_xs), (.func (.func f_f) s_f c_f), Ud, Ud, (u4 4), (Iv (k : Int)), (.slice p_xs L_xs.length q_xs), (Iv (L_xs.length : Int)), (Iv (k : Int)), (Bo (icmp .lss (k : Int) (L_xs.length : Int))), (Iv (k : Int)), (.func (.func f_f) s_f c_f), (.slice p_xs L_xs.length q_xs), (Iv (k : Int)), (Pt b15 o16), (u4 15), (u4 16), (u4 17), (u4 18)]) _
      refine q_is (l' := [(.slice p_xs L_xs.length q_xs), (.func (.func f_f) s_f c_f), Ud, Ud, (u4 4), (Iv (k : Int)), (.slice p_xs L_xs.length q_xs), (Iv (L_xs.length : Int)), (Iv (k : Int)), (Bo (icmp .lss (k : Int) (L_xs.length : Int))), (Iv (k : Int)), (.func (.func f_f) s_f c_f), (.slice p_xs L_xs.length q_xs), (Iv (k : Int)), (Pt b15 o16), (Fl r19), (u4 16), (u4 17), (u4 18)]) rfl rfl (does_load (u := (Fl r19)) (ev rfl) Try.isAgg22 (Cells.at hc18 0 rfl)) rfl ?_
      refine seqd rfl rfl (does_callf (args := #[(Fl r19)]) (ev rfl) hcal_f (evs rfl) (hg_f r19 _ X8)) ?_; rintro _ w22 ⟨E21, rfl⟩
      have X23 := Ext.gr X8 E21
      show wpList _ _ _ _ (fr [(.slice p_xs L_xs.length q_xs), (.func (.func f_f) s_f c_f), Ud, Ud, (u4 4), (Iv (k : Int)), (.slice p_xs L_xs.length q_xs), (Iv (L_xs.length : Int)), (Iv (k : Int)), (Bo (icmp .lss (k : Int) (L_xs.length : Int))), (Iv (k : Int)), (.func (.func f_f) s_f c_f), (.slice p_xs L_xs.length q_xs), (Iv (k : Int)), (Pt b15 o16), (Fl r19), (Bo (pr_f (cf .f32 r19))), (u4 17), (u4 18)]) _
      refine wpList_nil (hK14 _ _ ?_)
      refine wp_cond_split (t := pr_f (cf .f32 r19)) (ev rfl) (fun c24 => ?_) (fun c24 => ?_)
      · have c24' := c24
        refine wp_seq_k fun K25 hK25 => ?_
        refine wp_region_lit ?_
        refine q_is (l' := [(.slice p_xs L_xs.length q_xs), (.func (.func f_f) s_f c_f), Ud, Ud, (u4 4), (Iv (k : Int)), (.slice p_xs L_xs.length q_xs), (Iv (L_xs.length : Int)), (Iv (k : Int)), (Bo (icmp .lss (k : Int) (L_xs.length : Int))), (Iv (k : Int)), (.func (.func f_f) s_f c_f), (.slice p_xs L_xs.length q_xs), (Iv (k : Int)), (Pt b15 o16), (Fl r19), (Bo (pr_f (cf .f32 r19))), (Iv (k : Int)), (u4 18)]) rfl rfl (does_move (u := (Iv (k : Int))) (ev rfl)) rfl ?_
        refine q_is (l' := [(.slice p_xs L_xs.length q_xs), (.func (.func f_f) s_f c_f), Ud, Ud, (Iv (k : Int)), (Iv (k : Int)), (.slice p_xs L_xs.length q_xs), (Iv (L_xs.length : Int)), (Iv (k : Int)), (Bo (icmp .lss (k : Int) (L_xs.length : Int))), (Iv (k : Int)), (.func (.func f_f) s_f c_f), (.slice p_xs L_xs.length q_xs), (Iv (k : Int)), (Pt b15 o16), (Fl r19), (Bo (pr_f (cf .f32 r19))), (Iv (k : Int)), (u4 18)]) rfl rfl (does_assign (u := (Iv (k : Int))) (ev rfl)) rfl ?_
        refine wpList_nil (hK25 _ _ ?_)
        refine wp_ret ?_
        dsimp only [Exit.then, Exit.inBlock]
        refine ret_val (v := (Iv (k : Int))) (res_T rfl (slot rfl)) X23 ?_
        try simp only [hel1, h20] at c11 c24
        have x26 : (findI pr_f L_xs : Int) = (k : Int) := by first | exact findI_at hno (by assumption) (by simp_all) | exact findI_none hno (by omega)
        exact (by first | rfl | rw [x26])
      have c24' := c24
      refine wp_skip (hK12 _ _ ?_)
      refine wp_region_lit ?_
      refine q_is (l' := [(.slice p_xs L_xs.length q_xs), (.func (.func f_f) s_f c_f), Ud, Ud, (u4 4), (Iv (k : Int)), (.slice p_xs L_xs.length q_xs), (Iv (L_xs.length : Int)), (Iv (k : Int)), (Bo (icmp .lss (k : Int) (L_xs.length : Int))), (Iv (k : Int)), (.func (.func f_f) s_f c_f), (.slice p_xs L_xs.length q_xs), (Iv (k : Int)), (Pt b15 o16), (Fl r19), (Bo (pr_f (cf .f32 r19))), (u4 17), (Iv ((k : Int) + 1))]) rfl rfl (does_iarith (p := (k : Int)) (q := 1) (r := (k : Int) + 1) (ev rfl) (ev rfl) (.inl ⟨rfl, (in_i64 (by omega) (by omega)).symm⟩)) rfl ?_
      refine q_is (l' := [(.slice p_xs L_xs.length q_xs), (.func (.func f_f) s_f c_f), Ud, Ud, (u4 4), (Iv (k : Int)), (.slice p_xs L_xs.length q_xs), (Iv (L_xs.length : Int)), (Iv ((k : Int) + 1)), (Bo (icmp .lss (k : Int) (L_xs.length : Int))), (Iv (k : Int)), (.func (.func f_f) s_f c_f), (.slice p_xs L_xs.length q_xs), (Iv (k : Int)), (Pt b15 o16), (Fl r19), (Bo (pr_f (cf .f32 r19))), (u4 17), (Iv ((k : Int) + 1))]) rfl rfl (does_move (u := (Iv ((k : Int) + 1))) (ev rfl)) rfl ?_
      refine wpList_nil ?_
      refine ⟨k + 1, ⟨fun t => (([(.slice p_xs L_xs.length q_xs), (.func (.func f_f) s_f c_f), Ud, Ud, (u4 4), (Iv (k : Int)), (.slice p_xs L_xs.length q_xs), (Iv (L_xs.length : Int)), (Iv ((k : Int) + 1)), (Bo (icmp .lss (k : Int) (L_xs.length : Int))), (Iv (k : Int)), (.func (.func f_f) s_f c_f), (.slice p_xs L_xs.length q_xs), (Iv (k : Int)), (Pt b15 o16), (Fl r19), (Bo (pr_f (cf .f32 r19))), (u4 17), (Iv ((k : Int) + 1))] : List Value)[t]?).getD undef, ?_, (Ext.gr E6 E21), ?_⟩, ?_⟩
      · first | rfl | (simp only [Nat.cast_add, Nat.cast_one, Int.natCast_add, Int.natCast_one]; rfl)
      · exact ⟨by omega, NoneTo.step hno (by assumption) (by simp_all)⟩
      · omega
    have c11' := c11
    (try simp only [icmp, Bool.and_eq_true, Bool.or_eq_true, Bool.and_eq_false_iff, Bool.or_eq_false_iff, Bool.not_eq_true', Bool.not_eq_false', decide_eq_true_eq, decide_eq_false_iff_not, beq_iff_eq, bne_iff_ne, beq_eq_false_iff_ne, bne_eq_false_iff_eq] at c11')
    refine wp_exit ?_
    refine hK2 _ _ ?_
    refine wp_seq_k fun K27 hK27 => ?_
    refine wp_region_lit ?_
    refine q_is (l' := [(.slice p_xs L_xs.length q_xs), (.func (.func f_f) s_f c_f), Ud, Ud, (Iv (-1)), (u4 5), (.slice p_xs L_xs.length q_xs), (Iv (L_xs.length : Int)), (Iv (k : Int)), (Bo (icmp .lss (k : Int) (L_xs.length : Int))), (u4 10), (u4 11), (u4 12), (u4 13), (u4 14), (u4 15), (u4 16), (u4 17), (u4 18)]) rfl rfl (does_assign (u := (Iv (-1))) (ev rfl)) rfl ?_
    refine wpList_nil (hK27 _ _ ?_)
    refine wp_ret ?_
    refine ret_val (v := (Iv (-1))) (res_T rfl (slot rfl)) X8 ?_
    have x28 : (findI pr_f L_xs : Int) = (-1) := by first | exact findI_at hno (by assumption) (by simp_all) | exact findI_none hno (by omega)
    exact (by first | rfl | rw [x28])

/- slices.ContainsFunc[[]float32,float32] -/
theorem c_slices_ContainsFunc_float32_float32 (xs : Value) (L_xs : List Nat) (f : Value) (pr_f : Nat → Bool) (w : World) (hv_xs : Sl RF 1 w xs L_xs) (hv_f : TellsF Try.prog f w pr_f) : Gives Try.prog 61 #[xs, f] w (fun v w' => v = (Bo (L_xs.any pr_f))) := by
  have hlen_xs := Sl.len hv_xs; obtain ⟨p_xs, q_xs, rfl⟩ := Sl.shape hv_xs
  obtain ⟨f_f, s_f, c_f, rfl, hcal_f, hg_f⟩ := hv_f
  refine enter [(.slice p_xs L_xs.length q_xs), (.func (.func f_f) s_f c_f), Ud, Ud, Ud, Ud, Ud, Ud, Ud] Try.func61 rfl Try.ntmps61 rfl ?_
  refine wp_seq_k fun K1 hK1 => ?_
  refine wp_region_lit ?_
  refine q_is (l' := [(.slice p_xs L_xs.length q_xs), (.func (.func f_f) s_f c_f), Ud, Ud, (Bo false), Ud, Ud, Ud, Ud]) rfl rfl (does_assign (u := (Bo false)) (ev rfl)) rfl ?_
  refine wpList_nil (hK1 _ _ ?_)
  refine wp_seq_k fun K2 hK2 => ?_
  refine wp_region_lit ?_
  refine q_is (l' := [(.slice p_xs L_xs.length q_xs), (.func (.func f_f) s_f c_f), Ud, Ud, (Bo false), (.slice p_xs L_xs.length q_xs), Ud, Ud, Ud]) rfl rfl (does_move (u := (.slice p_xs L_xs.length q_xs)) (ev rfl)) rfl ?_
  refine q_is (l' := [(.slice p_xs L_xs.length q_xs), (.func (.func f_f) s_f c_f), Ud, Ud, (Bo false), (.slice p_xs L_xs.length q_xs), (.func (.func f_f) s_f c_f), Ud, Ud]) rfl rfl (does_move (u := (.func (.func f_f) s_f c_f)) (ev rfl)) rfl ?_
  refine seqd rfl rfl (does_call (args := #[(.slice p_xs L_xs.length q_xs), (.func (.func f_f) s_f c_f)]) cal63 (evs rfl) (c_slices_IndexFunc_float32_float32 (.slice p_xs L_xs.length q_xs) L_xs (.func (.func f_f) s_f c_f) pr_f _ hv_xs ⟨_, _, _, rfl, hcal_f, fun r u hu' => hg_f r u (Ext.gr (Ext.refl w) hu')⟩)) ?_; rintro _ w4 ⟨E3, rfl⟩
  have X5 := Ext.gr (Ext.refl w) E3
  show wpList _ _ _ _ (fr [(.slice p_xs L_xs.length q_xs), (.func (.func f_f) s_f c_f), Ud, Ud, (Bo false), (.slice p_xs L_xs.length q_xs), (.func (.func f_f) s_f c_f), (Iv (findI pr_f L_xs)), Ud]) _
  refine q_is (l' := [(.slice p_xs L_xs.length q_xs), (.func (.func f_f) s_f c_f), Ud, Ud, (Bo false), (.slice p_xs L_xs.length q_xs), (.func (.func f_f) s_f c_f), (Iv (findI pr_f L_xs)), (Bo (icmp .geq (findI pr_f L_xs) 0))]) rfl rfl (does_icmp (p := findI pr_f L_xs) (q := 0) (.inr (.inr (.inr (.inr (.inr rfl))))) (ev rfl) (ev rfl)) rfl ?_
  refine q_is (l' := [(.slice p_xs L_xs.length q_xs), (.func (.func f_f) s_f c_f), Ud, Ud, (Bo (icmp .geq (findI pr_f L_xs) 0)), (.slice p_xs L_xs.length q_xs), (.func (.func f_f) s_f c_f), (Iv (findI pr_f L_xs)), (Bo (icmp .geq (findI pr_f L_xs) 0))]) rfl rfl (does_assign (u := (Bo (icmp .geq (findI pr_f L_xs) 0))) (ev rfl)) rfl ?_
  refine wpList_nil (hK2 _ _ ?_)
  refine wp_ret ?_
  refine ret_val (v := (Bo (icmp .geq (findI pr_f L_xs) 0))) (res_T rfl (slot rfl)) X5 ?_
  have x6 : (L_xs.any pr_f) = (icmp .geq (findI pr_f L_xs) 0) := by first | with_reducible rfl | (simp only [findI_any]; done) | (simp [findI_any]; done) | rfl
  exact (by first | rfl | rw [x6])

/- impl.IsFinite -/
theorem c_impl_IsFinite (x : Nat) (w : World) : Gives Try.prog 60 #[(Fl x)] w (fun v w' => v = (Bo (finF (cf .f32 x)))) := by
  refine enter [(Fl x), Ud, Ud, Ud, Ud, Ud, Ud] Try.func60 rfl Try.ntmps60 rfl ?_
  refine wp_seq_k fun K1 hK1 => ?_
  refine wp_region_lit ?_
  refine q_is (l' := [(Fl x), Ud, (Bo false), Ud, Ud, Ud, Ud]) rfl rfl (does_assign (u := (Bo false)) (ev rfl)) rfl ?_
  refine wpList_nil (hK1 _ _ ?_)
  refine wp_seq_k fun K2 hK2 => ?_
  refine wp_region_lit ?_
  refine q_is (l' := [(Fl x), Ud, (Bo false), (Fl x), Ud, Ud, Ud]) rfl rfl (does_move (u := (Fl x)) (ev rfl)) rfl ?_
  refine q_is (l' := [(Fl x), Ud, (Bo false), (Fl x), (Fl x), Ud, Ud]) rfl rfl (does_move (u := (Fl x)) (ev rfl)) rfl ?_
  refine seqd rfl rfl (does_float (.inr (.inl rfl)) (ev rfl) (ev rfl)) ?_; rintro _ w6 ⟨r3, rfl, h4, E5⟩
  have X7 := Ext.gr (Ext.refl w) E5
  show wpList _ _ _ _ (fr [(Fl x), Ud, (Bo false), (Fl x), (Fl x), (Fl r3), Ud]) _
  refine q_is (l' := [(Fl x), Ud, (Bo false), (Fl x), (Fl x), (Fl r3), (Bo (fcmp .eql (ford .f32 (cf .f32 r3) (cf .f32 0))))]) rfl rfl (does_fcmp (.inl rfl) (ev rfl) (ev rfl)) rfl ?_
  refine q_is (l' := [(Fl x), Ud, (Bo (fcmp .eql (ford .f32 (cf .f32 r3) (cf .f32 0)))), (Fl x), (Fl x), (Fl r3), (Bo (fcmp .eql (ford .f32 (cf .f32 r3) (cf .f32 0))))]) rfl rfl (does_assign (u := (Bo (fcmp .eql (ford .f32 (cf .f32 r3) (cf .f32 0))))) (ev rfl)) rfl ?_
  refine wpList_nil (hK2 _ _ ?_)
  refine wp_ret ?_
  refine ret_val (v := (Bo (fcmp .eql (ford .f32 (cf .f32 r3) (cf .f32 0))))) (res_T rfl (slot rfl)) X7 ?_
  have x8 : (finF (cf .f32 x)) = (fcmp .eql (ford .f32 (cf .f32 r3) (cf .f32 0))) := by first | with_reducible rfl | (simp only [finF, h4]; done) | (simp [finF, h4]; done) | rfl
  exact (by first | rfl | rw [x8])

/- impl.finite$1 -/
theorem c_impl_finite_1 (x : Nat) (w : World) : Gives Try.prog 62 #[(Fl x)] w (fun v w' => v = (Bo (!finF (cf .f32 x)))) := by
  refine enter [(Fl x), Ud, Ud, Ud, Ud, Ud] Try.func62 rfl Try.ntmps62 rfl ?_
  refine wp_seq_k fun K1 hK1 => ?_
  refine wp_region_lit ?_
  refine q_is (l' := [(Fl x), Ud, (Bo false), Ud, Ud, Ud]) rfl rfl (does_assign (u := (Bo false)) (ev rfl)) rfl ?_
  refine wpList_nil (hK1 _ _ ?_)
  refine wp_seq_k fun K2 hK2 => ?_
  refine wp_region_lit ?_
  refine q_is (l' := [(Fl x), Ud, (Bo false), (Fl x), Ud, Ud]) rfl rfl (does_move (u := (Fl x)) (ev rfl)) rfl ?_
  refine seqd rfl rfl (does_call (args := #[(Fl x)]) cal60 (evs rfl) (c_impl_IsFinite x _)) ?_; rintro _ w4 ⟨E3, rfl⟩
  have X5 := Ext.gr (Ext.refl w) E3
  show wpList _ _ _ _ (fr [(Fl x), Ud, (Bo false), (Fl x), (Bo (finF (cf .f32 x))), Ud]) _
  refine q_is (l' := [(Fl x), Ud, (Bo false), (Fl x), (Bo (finF (cf .f32 x))), (Bo (!(finF (cf .f32 x))))]) rfl rfl (does_not (ev rfl)) rfl ?_
  refine q_is (l' := [(Fl x), Ud, (Bo (!(finF (cf .f32 x)))), (Fl x), (Bo (finF (cf .f32 x))), (Bo (!(finF (cf .f32 x))))]) rfl rfl (does_assign (u := (Bo (!(finF (cf .f32 x))))) (ev rfl)) rfl ?_
  refine wpList_nil (hK2 _ _ ?_)
  refine wp_ret ?_
  refine ret_val (v := (Bo (!(finF (cf .f32 x))))) (res_T rfl (slot rfl)) X5 ?_
  have x6 : (!finF (cf .f32 x)) = (!(finF (cf .f32 x))) := by first | with_reducible rfl | (simp only []; done) | (simp []; done) | rfl
  exact (by first | rfl | rw [x6])

/- impl.finite -/
theorem c_impl_finite (xs : Value) (L_xs : List Nat) (w : World) (hv_xs : Sl RF 1 w xs L_xs) : Gives Try.prog 59 #[xs] w (fun v w' => v = (Bo (!L_xs.any (fun x => !finF x)))) := by
  have hlen_xs := Sl.len hv_xs; obtain ⟨p_xs, q_xs, rfl⟩ := Sl.shape hv_xs
  refine enter [(.slice p_xs L_xs.length q_xs), Ud, Ud, Ud, Ud, Ud] Try.func59 rfl Try.ntmps59 rfl ?_
  refine wp_seq_k fun K1 hK1 => ?_
  refine wp_region_lit ?_
  refine q_is (l' := [(.slice p_xs L_xs.length q_xs), Ud, (Bo false), Ud, Ud, Ud]) rfl rfl (does_assign (u := (Bo false)) (ev rfl)) rfl ?_
  refine wpList_nil (hK1 _ _ ?_)
  refine wp_seq_k fun K2 hK2 => ?_
  refine wp_region_lit ?_
  refine q_is (l' := [(.slice p_xs L_xs.length q_xs), Ud, (Bo false), (.slice p_xs L_xs.length q_xs), Ud, Ud]) rfl rfl (does_move (u := (.slice p_xs L_xs.length q_xs)) (ev rfl)) rfl ?_
  refine seqd rfl rfl (does_call (args := #[(.slice p_xs L_xs.length q_xs), (.func (.func 62) #[] #[])]) cal61 (evs rfl) (c_slices_ContainsFunc_float32_float32 (.slice p_xs L_xs.length q_xs) L_xs (.func (.func 62) #[] #[]) (fun x => !finF x) _ hv_xs ⟨62, #[], #[], rfl, cal62, fun r u hu' => by simpa using (c_impl_finite_1 r u)⟩)) ?_; rintro _ w4 ⟨E3, rfl⟩
  have X5 := Ext.gr (Ext.refl w) E3
  show wpList _ _ _ _ (fr [(.slice p_xs L_xs.length q_xs), Ud, (Bo false), (.slice p_xs L_xs.length q_xs), (Bo (L_xs.any (fun x => !finF x))), Ud]) _
  refine q_is (l' := [(.slice p_xs L_xs.length q_xs), Ud, (Bo false), (.slice p_xs L_xs.length q_xs), (Bo (L_xs.any (fun x => !finF x))), (Bo (!(L_xs.any (fun x => !finF x))))]) rfl rfl (does_not (ev rfl)) rfl ?_
  refine q_is (l' := [(.slice p_xs L_xs.length q_xs), Ud, (Bo (!(L_xs.any (fun x => !finF x)))), (.slice p_xs L_xs.length q_xs), (Bo (L_xs.any (fun x => !finF x))), (Bo (!(L_xs.any (fun x => !finF x))))]) rfl rfl (does_assign (u := (Bo (!(L_xs.any (fun x => !finF x))))) (ev rfl)) rfl ?_
  refine wpList_nil (hK2 _ _ ?_)
  refine wp_ret ?_
  refine ret_val (v := (Bo (!(L_xs.any (fun x => !finF x))))) (res_T rfl (slot rfl)) X5 ?_
  have x6 : (!L_xs.any (fun x => !finF x)) = (!(L_xs.any (fun x => !finF x))) := by first | with_reducible rfl | (simp only []; done) | (simp []; done) | rfl
  exact (by first | rfl | rw [x6])

/- impl.finiteVector -/
theorem c_impl_finiteVector (v : List Value) (A_v : V3) (w : World) (hv_v : RV3 w A_v v) : Gives Try.prog 50 #[(.agg v.toArray)] w (fun v w' => v = (Bo (finV A_v))) := by
  obtain ⟨r1, r3, r5, rfl, h2, h4, h6⟩ := hv_v
  refine enter [(.agg #[(Fl r1), (Fl r3), (Fl r5)]), Ud, Ud, Ud, Ud, Ud, Ud, Ud, Ud, Ud, Ud] Try.func50 rfl Try.ntmps50 rfl ?_
  refine wp_seq_k fun K7 hK7 => ?_
  refine wp_region_lit ?_
  refine seqd rfl rfl (does_box (u := (.agg #[(Fl r1), (Fl r3), (Fl r5)])) (ev rfl)) ?_; rintro _ w12 ⟨b8, rfl, hb9, hB10, E11⟩
  have g13 : w.heap.size ≤ b8 := Nat.le_trans (Below.size (Ext.refl w)) hb9
  change Blk _ _ [(Fl r1), (Fl r3), (Fl r5)] at hB10
  have X14 := Ext.gr (Ext.refl w) E11
  show wpList _ _ _ _ (fr [(.agg #[(Fl r1), (Fl r3), (Fl r5)]), (Pt b8 0), Ud, Ud, Ud, Ud, Ud, Ud, Ud, Ud, Ud]) _
  refine q_is (l' := [(.agg #[(Fl r1), (Fl r3), (Fl r5)]), (Pt b8 0), (Bo false), Ud, Ud, Ud, Ud, Ud, Ud, Ud, Ud]) rfl rfl (does_assign (u := (Bo false)) (ev rfl)) rfl ?_
  refine wpList_nil (hK7 _ _ ?_)
  refine wp_seq_k fun K15 hK15 => ?_
  refine wp_region_lit ?_
  refine q_is (l' := [(.agg #[(Fl r1), (Fl r3), (Fl r5)]), (Pt b8 0), (Bo false), (Pt b8 0), Ud, Ud, Ud, Ud, Ud, Ud, Ud]) rfl rfl (does_fieldAddr (ev rfl) fa29_0) rfl ?_
  refine q_is (l' := [(.agg #[(Fl r1), (Fl r3), (Fl r5)]), (Pt b8 0), (Bo false), (Pt b8 0), (Fl r1), Ud, Ud, Ud, Ud, Ud, Ud]) rfl rfl (does_load (u := (Fl r1)) (ev rfl) Try.isAgg22 (Cells.at (Blk.cells hB10) 0 rfl)) rfl ?_
  refine q_is (l' := [(.agg #[(Fl r1), (Fl r3), (Fl r5)]), (Pt b8 0), (Bo false), (Pt b8 0), (Fl r1), (Pt b8 1), Ud, Ud, Ud, Ud, Ud]) rfl rfl (does_fieldAddr (ev rfl) fa29_1) rfl ?_
  refine q_is (l' := [(.agg #[(Fl r1), (Fl r3), (Fl r5)]), (Pt b8 0), (Bo false), (Pt b8 0), (Fl r1), (Pt b8 1), (Fl r3), Ud, Ud, Ud, Ud]) rfl rfl (does_load (u := (Fl r3)) (ev rfl) Try.isAgg22 (Cells.at (Blk.cells hB10) 1 rfl)) rfl ?_
  refine q_is (l' := [(.agg #[(Fl r1), (Fl r3), (Fl r5)]), (Pt b8 0), (Bo false), (Pt b8 0), (Fl r1), (Pt b8 1), (Fl r3), (Pt b8 2), Ud, Ud, Ud]) rfl rfl (does_fieldAddr (ev rfl) fa29_2) rfl ?_
  refine q_is (l' := [(.agg #[(Fl r1), (Fl r3), (Fl r5)]), (Pt b8 0), (Bo false), (Pt b8 0), (Fl r1), (Pt b8 1), (Fl r3), (Pt b8 2), (Fl r5), Ud, Ud]) rfl rfl (does_load (u := (Fl r5)) (ev rfl) Try.isAgg22 (Cells.at (Blk.cells hB10) 2 rfl)) rfl ?_
  refine seqd rfl rfl (does_buildSlice (e := 22) (parts' := [(0, (Fl r1)), (1, (Fl r3)), (2, (Fl r5))]) (cells := [(Fl r1), (Fl r3), (Fl r5)]) (evp rfl) (fun _ => by kernel_rfl)) ?_; rintro _ w20 ⟨b16, rfl, hb17, hB18, E19⟩
  have n21 : b8 < b16 := Nat.lt_of_lt_of_le (Blk.lt hB10) hb17
  have g22 : w.heap.size ≤ b16 := Nat.le_trans (Below.size X14) hb17
  have X23 := Ext.gr X14 E19
  show wpList _ _ _ _ (fr [(.agg #[(Fl r1), (Fl r3), (Fl r5)]), (Pt b8 0), (Bo false), (Pt b8 0), (Fl r1), (Pt b8 1), (Fl r3), (Pt b8 2), (Fl r5), (.slice (some ⟨b16, 0, none⟩) 3 3), Ud]) _
  refine seqd rfl rfl (does_call (args := #[(.slice (some ⟨b16, 0, none⟩) 3 3)]) cal59 (evs rfl) (c_impl_finite (.slice (some ⟨b16, 0, none⟩) 3 3) [(cf .f32 r1), (cf .f32 r3), (cf .f32 r5)] _ (Sl_lit3 hB18 ⟨_, rfl, rfl⟩ ⟨_, rfl, rfl⟩ ⟨_, rfl, rfl⟩))) ?_; rintro _ w25 ⟨E24, rfl⟩
  have X26 := Ext.gr X23 E24
  show wpList _ _ _ _ (fr [(.agg #[(Fl r1), (Fl r3), (Fl r5)]), (Pt b8 0), (Bo false), (Pt b8 0), (Fl r1), (Pt b8 1), (Fl r3), (Pt b8 2), (Fl r5), (.slice (some ⟨b16, 0, none⟩) 3 3), (Bo (!([(cf .f32 r1), (cf .f32 r3), (cf .f32 r5)]).any (fun x => !finF x)))]) _
  refine q_is (l' := [(.agg #[(Fl r1), (Fl r3), (Fl r5)]), (Pt b8 0), (Bo (!([(cf .f32 r1), (cf .f32 r3), (cf .f32 r5)]).any (fun x => !finF x))), (Pt b8 0), (Fl r1), (Pt b8 1), (Fl r3), (Pt b8 2), (Fl r5), (.slice (some ⟨b16, 0, none⟩) 3 3), (Bo (!([(cf .f32 r1), (cf .f32 r3), (cf .f32 r5)]).any (fun x => !finF x)))]) rfl rfl (does_assign (u := (Bo (!([(cf .f32 r1), (cf .f32 r3), (cf .f32 r5)]).any (fun x => !finF x)))) (ev rfl)) rfl ?_
  refine wpList_nil (hK15 _ _ ?_)
  refine wp_ret ?_
  refine ret_val (v := (Bo (!([(cf .f32 r1), (cf .f32 r3), (cf .f32 r5)]).any (fun x => !finF x)))) (res_T rfl (slot rfl)) X26 ?_
  have x27 : (finV A_v) = (!([(cf .f32 r1), (cf .f32 r3), (cf .f32 r5)]).any (fun x => !finF x)) := by first | with_reducible rfl | (simp only [finV, any3_finF, h2, h4, h6]; done) | (simp [finV, any3_finF, h2, h4, h6]; done) | rfl
  exact (by first | rfl | rw [x27])

/- impl.stepOk -/
theorem c_impl_stepOk (x : Nat) (w : World) : Gives Try.prog 51 #[(Fl x)] w (fun v w' => v = (Bo (finF (cf .f32 x) && posF (cf .f32 x)))) := by
  refine enter [(Fl x), Ud, Ud, Ud, Ud, Ud, Ud, Ud, Ud] Try.func51 rfl Try.ntmps51 rfl ?_
  refine wp_seq_k fun K1 hK1 => ?_
  refine wp_region_lit ?_
  refine q_is (l' := [(Fl x), Ud, (Bo false), Ud, Ud, Ud, Ud, Ud, Ud]) rfl rfl (does_assign (u := (Bo false)) (ev rfl)) rfl ?_
  refine wpList_nil (hK1 _ _ ?_)
  refine wp_seq_k fun K2 hK2 => ?_
  obtain ⟨β1, hβ1⟩ : ∃ b : Bool, b = (fcmp .gtr (ford .f32 (cf .f32 x) (cf .f32 0))) := ⟨_, rfl⟩
  refine region_text (
    [Fact.pure [] (fun v => v = (Fl x)),
    Fact.pure [3] (fun v => v = (Bo (finF (cf .f32 x)))),
    Fact.pure [4] (fun v => v = (Bo (finF (cf .f32 x)))),
    Fact.pure [5] (fun v => (finF (cf .f32 x)) = true → v = (Fl x)),
    Fact.pure [6, 5] (fun v => (finF (cf .f32 x)) = true → v = (Bo β1)),
    Fact.pure [5, 7] (fun v => v = (Bo ((finF (cf .f32 x)) && β1)))]) (by simp [Fact.pure, Fact.mem]) ?_
  refine RW_d (fun v3 => [(Fl x), Ud, (Bo false), v3, Ud, Ud, Ud, Ud, Ud]) rfl (fun _ => rfl) (fun u hu hF => ?_) (fun v3 => ?_)
  · clear hF
    refine doesG_un rfl ?_
    refine (does_move (u := (Fl x)) (ev rfl)).mono ?_; rintro _ _ ⟨rfl, rfl⟩
    exact ⟨rfl, Ext.refl _⟩
  refine RW_d (fun v4 => [(Fl x), Ud, (Bo false), v3, v4, Ud, Ud, Ud, Ud]) rfl (fun _ => rfl) (fun u hu hF => ?_) (fun v4 => ?_)
  · have h3_ : v3 = (Fl x) := hF.1
    clear hF
    refine doesG_un rfl ?_
    obtain rfl := h3_
    refine (does_call (args := #[(Fl x)]) cal60 (evs rfl) (c_impl_IsFinite x _)).mono ?_; rintro v u' ⟨hx, hv⟩
    exact ⟨hv, hx⟩
  refine RW_d (fun v5 => [(Fl x), Ud, (Bo false), v3, v4, v5, Ud, Ud, Ud]) rfl (fun _ => rfl) (fun u hu hF => ?_) (fun v5 => ?_)
  · have h4_ : v4 = (Bo (finF (cf .f32 x))) := hF.1
    clear hF
    refine doesG_un rfl ?_
    obtain rfl := h4_
    refine (does_move (u := (Bo (finF (cf .f32 x)))) (ev rfl)).mono ?_; rintro _ _ ⟨rfl, rfl⟩
    exact ⟨rfl, Ext.refl _⟩
  refine RW_d (fun v6 => [(Fl x), Ud, (Bo false), v3, v4, v5, v6, Ud, Ud]) rfl (fun _ => rfl) (fun u hu hF => ?_) (fun v6 => ?_)
  · have h5_ : v5 = (Bo (finF (cf .f32 x))) := hF.1
    clear hF
    obtain rfl := h5_
    refine doesG_g (b := (finF (cf .f32 x))) rfl (yld rfl rfl) (fun hg1 => ?_) (fun hc => ⟨fun hg1 => absurd hg1 hc, Ext.refl _⟩)
    refine (does_move (u := (Fl x)) (ev rfl)).mono ?_; rintro _ _ ⟨rfl, rfl⟩
    exact ⟨fun _ => rfl, Ext.refl _⟩
  refine RW_d (fun v7 => [(Fl x), Ud, (Bo false), v3, v4, v5, v6, v7, Ud]) rfl (fun _ => rfl) (fun u hu hF => ?_) (fun v7 => ?_)
  · have h6_ : (finF (cf .f32 x)) = true → v6 = (Fl x) := hF.1
    have h5_ : v5 = (Bo (finF (cf .f32 x))) := hF.2.1
    clear hF
    obtain rfl := h5_
    refine doesG_g (b := (finF (cf .f32 x))) rfl (yld rfl rfl) (fun hg1 => ?_) (fun hc => ⟨fun hg1 => absurd hg1 hc, Ext.refl _⟩)
    obtain rfl := h6_ hg1
    refine (does_fcmp (.inr (.inr (.inr (.inr (.inl rfl))))) (ev rfl) (ev rfl)).mono ?_; rintro _ _ ⟨rfl, rfl⟩
    exact ⟨fun _ => (by first | rfl | (show _ = _; simp only [hβ1]; done) | (show _ = _; simp only [hβ1]; rfl)), Ext.refl _⟩
  refine RW_d (fun v8 => [(Fl x), Ud, (Bo false), v3, v4, v5, v6, v7, v8]) rfl (fun _ => rfl) (fun u hu hF => ?_) (fun v8 => ?_)
  · have h5_ : v5 = (Bo (finF (cf .f32 x))) := hF.1
    have h7_ : (finF (cf .f32 x)) = true → v7 = (Bo β1) := hF.2.1
    clear hF
    refine doesG_un rfl ?_
    skip
    obtain rfl := h5_
    refine (does_pick (b := (finF (cf .f32 x))) (ev rfl) (ev rfl) (ev rfl)).mono ?_; rintro _ _ ⟨rfl, rfl⟩; refine ⟨?_, Ext.refl _⟩; skip
    cases hbb : (finF (cf .f32 x))
    all_goals first | rfl | (have e_ := h7_ hbb; subst e_; rfl) | (simp [hbb] at h7_ ⊢; first | done | rfl | (subst h7_; rfl) | simp_all) | (simp [hbb] at h7_ ⊢; done)
  refine RW_fin ?_; intro w9 E10 hP11
  obtain ⟨⟨⟨⟨⟨⟨-, -⟩, -⟩, -⟩, -⟩, -⟩, q12⟩ := hP11
  have X13 := Ext.gr (Ext.refl w) E10
  have q12 : v8 = (Bo ((finF (cf .f32 x)) && β1)) := q12
  obtain rfl := q12
  show wpList _ _ _ _ (fr [(Fl x), Ud, (Bo false), v3, v4, v5, v6, v7, (Bo ((finF (cf .f32 x)) && β1))]) _
  refine q_is (l' := [(Fl x), Ud, (Bo ((finF (cf .f32 x)) && β1)), v3, v4, v5, v6, v7, (Bo ((finF (cf .f32 x)) && β1))]) rfl rfl (does_assign (u := (Bo ((finF (cf .f32 x)) && β1))) (ev rfl)) rfl ?_
  refine wpList_nil (hK2 _ _ ?_)
  refine wp_ret ?_
  refine ret_val (v := (Bo ((finF (cf .f32 x)) && β1))) (res_T rfl (slot rfl)) X13 ?_
  have x14 : (finF (cf .f32 x) && posF (cf .f32 x)) = ((finF (cf .f32 x)) && β1) := by first | with_reducible rfl | (simp only [posF, hβ1]; done) | (simp [posF, hβ1]; done) | rfl
  exact (by first | rfl | rw [x14])

/- impl.ValidGrid -/
theorem c_impl_ValidGrid (g : List Value) (A_g : GridT) (w : World) (hv_g : RGridT w A_g g) : Gives Try.prog 28 #[(.agg g.toArray)] w (fun v w' => v = (Bo (isGrid A_g))) := by
  obtain ⟨r1, r3, r5, r7, y9, rfl, h2, h4, h6, h8, h10⟩ := hv_g
  have hs13 := h10; have hs13l := Sl.len h10; obtain ⟨p11, q12, rfl⟩ := Sl.shape h10
  refine enter [(.agg #[(Fl r1), (Fl r3), (Fl r5), (Fl r7), (Iv A_g.x), (Iv A_g.y), (Iv A_g.z), (.slice p11 A_g.vals.length q12)]), Ud, Ud, Ud, Ud, Ud, Ud, Ud, Ud, Ud, Ud, Ud, Ud, Ud, Ud, Ud, Ud, Ud, Ud, Ud, Ud, Ud, Ud, Ud, Ud, Ud, Ud, Ud, Ud, Ud, Ud, Ud, Ud, Ud, Ud, Ud, Ud, Ud, Ud, Ud, Ud] Try.func28 rfl Try.ntmps28 rfl ?_
  refine wp_seq_k fun K14 hK14 => ?_
  refine wp_region_lit ?_
  refine seqd rfl rfl (does_box (u := (.agg #[(Fl r1), (Fl r3), (Fl r5), (Fl r7), (Iv A_g.x), (Iv A_g.y), (Iv A_g.z), (.slice p11 A_g.vals.length q12)])) (ev rfl)) ?_; rintro _ w19 ⟨b15, rfl, hb16, hB17, E18⟩
  have g20 : w.heap.size ≤ b15 := Nat.le_trans (Below.size (Ext.refl w)) hb16
  change Blk _ _ [(Fl r1), (Fl r3), (Fl r5), (Fl r7), (Iv A_g.x), (Iv A_g.y), (Iv A_g.z), (.slice p11 A_g.vals.length q12)] at hB17
  have X21 := Ext.gr (Ext.refl w) E18
  show wpList _ _ _ _ (fr [_, _, _, _, _, _, _, _, _, _, _, _, _, _, _, _, _, _, _, _, _, _, _, _, _, _, _, _, _, _, _, _, _, _, _, _, _, _, _, _, _]) _
  refine q_is rfl rfl (does_assign (u := (Bo false)) (ev rfl)) (by dsimp only [List.set]; try rfl) ?_
  refine wpList_nil (hK14 _ _ ?_)
  refine wp_seq_k fun K22 hK22 => ?_
  refine wp_seq_k fun K23 hK23 => ?_
  obtain ⟨β1, hβ1⟩ : ∃ b : Bool, b = (finF (cf .f32 r7) && posF (cf .f32 r7)) := ⟨_, rfl⟩
  obtain ⟨β2, hβ2⟩ : ∃ b : Bool, b = ((!(finV A_g.low)) || (!β1)) := ⟨_, rfl⟩
  refine region_text (
    [Fact.pure [] (fun v => v = (Pt b15 0)),
    Fact.pure [6] (fun v => v = (.agg #[(Fl r1), (Fl r3), (Fl r5)])),
    Fact.pure [7] (fun v => v = (Bo (finV A_g.low))),
    Fact.pure [8] (fun v => v = (Bo (!(finV A_g.low)))),
    Fact.pure [9] (fun v => v = (Bo (!(finV A_g.low)))),
    Fact.pure [10] (fun v => (!(finV A_g.low)) = false → v = (Pt b15 3)),
    Fact.pure [11, 10] (fun v => (!(finV A_g.low)) = false → v = (Fl r7)),
    Fact.pure [12, 10] (fun v => (!(finV A_g.low)) = false → v = (Bo β1)),
    Fact.pure [13, 10] (fun v => (!(finV A_g.low)) = false → v = (Bo (!β1))),
    Fact.pure [10, 14] (fun v => v = (Bo β2))]) (by simp [Fact.pure, Fact.mem]) ?_
  refine RW_d _ rfl (fun v => by dsimp only [List.set]; try rfl) (fun u hu hF => ?_) (fun v24 => ?_)
  · clear hF
    refine doesG_un rfl ?_
    refine (does_fieldAddr (ev rfl) fa31_0).mono ?_; rintro _ _ ⟨rfl, rfl⟩
    exact ⟨rfl, Ext.refl _⟩
  refine RW_d _ rfl (fun v => by dsimp only [List.set]; try rfl) (fun u hu hF => ?_) (fun v25 => ?_)
  · have h6_ : v24 = (Pt b15 0) := hF.1
    clear hF
    refine doesG_un rfl ?_
    obtain rfl := h6_
    refine (does_loadAgg (cs := [(Fl r1), (Fl r3), (Fl r5)]) (ev rfl) Try.isAgg29 Try.sizeOf29 (Cells.sub (Blk.cells (hB17.ext hu)) 0 3) rfl).mono ?_; rintro _ _ ⟨rfl, rfl⟩
    exact ⟨rfl, Ext.refl _⟩
  refine RW_d _ rfl (fun v => by dsimp only [List.set]; try rfl) (fun u hu hF => ?_) (fun v26 => ?_)
  · have h7_ : v25 = (.agg #[(Fl r1), (Fl r3), (Fl r5)]) := hF.1
    clear hF
    refine doesG_un rfl ?_
    obtain rfl := h7_
    refine (does_call (args := #[(.agg #[(Fl r1), (Fl r3), (Fl r5)])]) cal50 (evs rfl) (c_impl_finiteVector [(Fl r1), (Fl r3), (Fl r5)] A_g.low _ ⟨r1, r3, r5, rfl, h2, h4, h6⟩)).mono ?_; rintro v u' ⟨hx, hv⟩
    exact ⟨hv, hx⟩
  refine RW_d _ rfl (fun v => by dsimp only [List.set]; try rfl) (fun u hu hF => ?_) (fun v27 => ?_)
  · have h8_ : v26 = (Bo (finV A_g.low)) := hF.1
    clear hF
    refine doesG_un rfl ?_
    obtain rfl := h8_
    refine (does_not (ev rfl)).mono ?_; rintro _ _ ⟨rfl, rfl⟩
    exact ⟨rfl, Ext.refl _⟩
  refine RW_d _ rfl (fun v => by dsimp only [List.set]; try rfl) (fun u hu hF => ?_) (fun v28 => ?_)
  · have h9_ : v27 = (Bo (!(finV A_g.low))) := hF.1
    clear hF
    refine doesG_un rfl ?_
    obtain rfl := h9_
    refine (does_move (u := (Bo (!(finV A_g.low)))) (ev rfl)).mono ?_; rintro _ _ ⟨rfl, rfl⟩
    exact ⟨rfl, Ext.refl _⟩
  refine RW_d _ rfl (fun v => by dsimp only [List.set]; try rfl) (fun u hu hF => ?_) (fun v29 => ?_)
  · have h10_ : v28 = (Bo (!(finV A_g.low))) := hF.1
    clear hF
    obtain rfl := h10_
    refine doesG_g (b := (!(finV A_g.low))) rfl (yld rfl rfl) (fun hg1 => ?_) (fun hc => ⟨fun hg1 => absurd hg1 hc, Ext.refl _⟩)
    refine (does_fieldAddr (ev rfl) fa31_1).mono ?_; rintro _ _ ⟨rfl, rfl⟩
    exact ⟨fun _ => rfl, Ext.refl _⟩
  refine RW_d _ rfl (fun v => by dsimp only [List.set]; try rfl) (fun u hu hF => ?_) (fun v30 => ?_)
  · have h11_ : (!(finV A_g.low)) = false → v29 = (Pt b15 3) := hF.1
    have h10_ : v28 = (Bo (!(finV A_g.low))) := hF.2.1
    clear hF
    obtain rfl := h10_
    refine doesG_g (b := (!(finV A_g.low))) rfl (yld rfl rfl) (fun hg1 => ?_) (fun hc => ⟨fun hg1 => absurd hg1 hc, Ext.refl _⟩)
    obtain rfl := h11_ hg1
    refine (does_load (u := (Fl r7)) (ev rfl) Try.isAgg22 (Cells.at (Blk.cells (hB17.ext hu)) 3 rfl)).mono ?_; rintro _ _ ⟨rfl, rfl⟩
    exact ⟨fun _ => rfl, Ext.refl _⟩
  refine RW_d _ rfl (fun v => by dsimp only [List.set]; try rfl) (fun u hu hF => ?_) (fun v31 => ?_)
  · have h12_ : (!(finV A_g.low)) = false → v30 = (Fl r7) := hF.1
    have h10_ : v28 = (Bo (!(finV A_g.low))) := hF.2.1
    clear hF
    obtain rfl := h10_
    refine doesG_g (b := (!(finV A_g.low))) rfl (yld rfl rfl) (fun hg1 => ?_) (fun hc => ⟨fun hg1 => absurd hg1 hc, Ext.refl _⟩)
    obtain rfl := h12_ hg1
    refine (does_call (args := #[(Fl r7)]) cal51 (evs rfl) (c_impl_stepOk r7 _)).mono ?_; rintro v u' ⟨hx, hv⟩
    exact ⟨fun _ => hv.trans (by simp only [hβ1]), hx⟩
  refine RW_d _ rfl (fun v => by dsimp only [List.set]; try rfl) (fun u hu hF => ?_) (fun v32 => ?_)
  · have h13_ : (!(finV A_g.low)) = false → v31 = (Bo β1) := hF.1
    have h10_ : v28 = (Bo (!(finV A_g.low))) := hF.2.1
    clear hF
    obtain rfl := h10_
    refine doesG_g (b := (!(finV A_g.low))) rfl (yld rfl rfl) (fun hg1 => ?_) (fun hc => ⟨fun hg1 => absurd hg1 hc, Ext.refl _⟩)
    obtain rfl := h13_ hg1
    refine (does_not (ev rfl)).mono ?_; rintro _ _ ⟨rfl, rfl⟩
    exact ⟨fun _ => rfl, Ext.refl _⟩
  refine RW_d _ rfl (fun v => by dsimp only [List.set]; try rfl) (fun u hu hF => ?_) (fun v33 => ?_)
  · have h10_ : v28 = (Bo (!(finV A_g.low))) := hF.1
    have h14_ : (!(finV A_g.low)) = false → v32 = (Bo (!β1)) := hF.2.1
    clear hF
    refine doesG_un rfl ?_
    skip
    obtain rfl := h10_
    refine (does_pick (b := (!(finV A_g.low))) (ev rfl) (ev rfl) (ev rfl)).mono ?_; rintro _ _ ⟨rfl, rfl⟩; refine ⟨?_, Ext.refl _⟩; rw [hβ2]; skip
    cases hbb : (!(finV A_g.low))
    all_goals first | rfl | (have e_ := h14_ hbb; subst e_; rfl) | (simp [hbb] at h14_ ⊢; first | done | rfl | (subst h14_; rfl) | simp_all) | (simp [hbb] at h14_ ⊢; done)
  refine RW_fin ?_; intro w34 E35 hP36
  obtain ⟨⟨⟨⟨⟨⟨⟨⟨⟨⟨-, -⟩, -⟩, -⟩, -⟩, -⟩, -⟩, -⟩, -⟩, -⟩, q37⟩ := hP36
  have X38 := Ext.gr X21 E35
  have q37 : v33 = (Bo β2) := q37
  obtain rfl := q37
  show wpList _ _ _ _ (fr [_, _, _, _, _, _, _, _, _, _, _, _, _, _, _, _, _, _, _, _, _, _, _, _, _, _, _, _, _, _, _, _, _, _, _, _, _, _, _, _, _]) _
  refine wpList_nil (hK23 _ _ ?_)
  refine wp_cond_split (t := β2) (ev rfl) (fun c39 => ?_) (fun c39 => ?_)
  · have c39' := c39
    (try simp only [hβ1, hβ2] at c39')
    (try simp only [icmp, Bool.and_eq_true, Bool.or_eq_true, Bool.and_eq_false_iff, Bool.or_eq_false_iff, Bool.not_eq_true', Bool.not_eq_false', decide_eq_true_eq, decide_eq_false_iff_not, beq_iff_eq, bne_iff_ne, beq_eq_false_iff_ne, bne_eq_false_iff_eq] at c39')
    refine wp_seq_k fun K40 hK40 => ?_
    refine wp_region_lit ?_
    refine q_is rfl rfl (does_assign (u := (Bo false)) (ev rfl)) (by dsimp only [List.set]; try rfl) ?_
    refine wpList_nil (hK40 _ _ ?_)
    refine wp_ret ?_
    dsimp only [Exit.then, Exit.inBlock]
    refine ret_val (v := (Bo false)) (res_T rfl (slot rfl)) X38 ?_
    try simp only [h2, h4, h6, h8, hβ1, hβ2] at c39
    have x41 : (isGrid A_g) = false := by first | with_reducible rfl | (simp only [isGrid, cntOk, prod3, h2, h4, h6, h8, hβ1, hβ2, c39]; done) | (simp [isGrid, cntOk, prod3, h2, h4, h6, h8, hβ1, hβ2, c39]; done) | (revert c39; simp +contextual [isGrid, cntOk, prod3, h2, h4, h6, h8, hβ1, hβ2]; done) | (rcases c39' with hh | hh <;> simp only [hh, isGrid, cntOk, prod3, h2, h4, h6, h8, hβ1, hβ2, c39]; done) | (rcases c39' with hh | hh <;> simp_all [isGrid, cntOk, prod3]; done) | (rcases c39' with hh | hh | hh <;> simp_all [isGrid, cntOk, prod3]; done) | (rcases c39' with hh | hh | hh | hh <;> simp_all [isGrid, cntOk, prod3]; done) | (simp_all [isGrid, cntOk, prod3]; done) | rfl
    exact (by first | rfl | rw [x41])
  have c39' := c39
  (try simp only [hβ1, hβ2] at c39')
  (try simp only [icmp, Bool.and_eq_true, Bool.or_eq_true, Bool.and_eq_false_iff, Bool.or_eq_false_iff, Bool.not_eq_true', Bool.not_eq_false', decide_eq_true_eq, decide_eq_false_iff_not, beq_iff_eq, bne_iff_ne, beq_eq_false_iff_ne, bne_eq_false_iff_eq] at c39')
  refine wp_skip (hK22 _ _ ?_)
  refine wp_seq_k fun K42 hK42 => ?_
  refine wp_seq_k fun K43 hK43 => ?_
  refine wp_region_lit ?_
  refine seqd rfl rfl (does_call (args := #[(Pt b15 0)]) cal39 (evs rfl) (c_impl_Grid_counts b15 0 [(Fl r1), (Fl r3), (Fl r5), (Fl r7), (Iv A_g.x), (Iv A_g.y), (Iv A_g.z), (.slice p11 A_g.vals.length q12)] A_g _ (Blk.cells (hB17.ext E35)) ⟨r1, r3, r5, r7, (.slice p11 A_g.vals.length q12), rfl, h2, h4, h6, h8, (Sl.ext hs13 RF.mono X38)⟩)) ?_; rintro _ w45 ⟨E44, rfl⟩
  have X46 := Ext.gr X38 E44
  show wpList _ _ _ _ (fr [_, _, _, _, _, _, _, _, _, _, _, _, _, _, _, _, _, _, _, _, _, _, _, _, _, _, _, _, _, _, _, _, _, _, _, _, _, _, _, _, _]) _
  refine q_is rfl rfl (does_move (u := (Iv 0)) (ev rfl)) (by dsimp only [List.set]; try rfl) ?_
  refine wpList_nil (hK43 _ _ ?_)
  refine wp_block ?_
  refine loop_unroll 4 ?_
  refine un_step ?_
  refine wp_seq_k fun K47 hK47 => ?_
  refine wp_region_lit ?_
  refine q_is rfl rfl (does_icmp (p := 0) (q := 3) (.inr (.inr (.inl rfl))) (ev rfl) (ev rfl)) (by dsimp only [List.set]; try rfl) ?_
  refine wpList_nil (hK47 _ _ ?_)
  refine wp_seq_k fun K48 hK48 => ?_
  refine wp_cond_true (ev rfl) ?_
  refine wp_skip (hK48 _ _ ?_)
  refine wp_seq_k fun K49 hK49 => ?_
  refine wp_block ?_
  refine wp_seq_k fun K50 hK50 => ?_
  refine wp_region_lit ?_
  refine q_is rfl rfl (does_index_run (r := (Iv A_g.x)) (ev rfl) (ev rfl) (fun w => ix55_0 _ _ _ w)) (by dsimp only [List.set]; try rfl) ?_
  refine q_is rfl rfl (does_assign (u := (Iv A_g.x)) (ev rfl)) (by dsimp only [List.set]; try rfl) ?_
  refine wpList_nil (hK50 _ _ ?_)
  refine wp_seq_k fun K51 hK51 => ?_
  refine wp_region_lit ?_
  refine q_is rfl rfl (does_move (u := (Iv A_g.x)) (ev rfl)) (by dsimp only [List.set]; try rfl) ?_
  refine seqd rfl rfl (does_call (args := #[(Iv A_g.x), (Iv 1), (Iv 16)]) cal40 (evs rfl) (c_impl_in A_g.x 1 16 _)) ?_; rintro _ w53 ⟨E52, rfl⟩
  have X54 := Ext.gr X46 E52
  show wpList _ _ _ _ (fr [_, _, _, _, _, _, _, _, _, _, _, _, _, _, _, _, _, _, _, _, _, _, _, _, _, _, _, _, _, _, _, _, _, _, _, _, _, _, _, _, _]) _
  refine q_is rfl rfl (does_not (ev rfl)) (by dsimp only [List.set]; try rfl) ?_
  refine wpList_nil (hK51 _ _ ?_)
  refine wp_cond_split (t := !(inI A_g.x 1 16)) (ev rfl) (fun c55 => ?_) (fun c55 => ?_)
  · rw [Bool.not_eq_true'] at c55
    have c55' := c55
    (try simp only [hβ1, hβ2] at c55')
    (try simp only [icmp, Bool.and_eq_true, Bool.or_eq_true, Bool.and_eq_false_iff, Bool.or_eq_false_iff, Bool.not_eq_true', Bool.not_eq_false', decide_eq_true_eq, decide_eq_false_iff_not, beq_iff_eq, bne_iff_ne, beq_eq_false_iff_ne, bne_eq_false_iff_eq] at c55')
    refine wp_seq_k fun K56 hK56 => ?_
    refine wp_region_lit ?_
    refine q_is rfl rfl (does_assign (u := (Bo false)) (ev rfl)) (by dsimp only [List.set]; try rfl) ?_
    refine wpList_nil (hK56 _ _ ?_)
    refine wp_ret ?_
    dsimp only [Exit.then, Exit.inBlock]
    refine ret_val (v := (Bo false)) (res_T rfl (slot rfl)) X54 ?_
    try simp only [h2, h4, h6, h8, hβ1, hβ2] at c39 c55
    have x57 : (isGrid A_g) = false := by first | with_reducible rfl | (simp only [isGrid, cntOk, prod3, h2, h4, h6, h8, hβ1, hβ2, c39, c55]; done) | (simp [isGrid, cntOk, prod3, h2, h4, h6, h8, hβ1, hβ2, c39, c55]; done) | (revert c39 c55; simp +contextual [isGrid, cntOk, prod3, h2, h4, h6, h8, hβ1, hβ2]; done) | (rcases c39' with hh | hh <;> simp only [hh, isGrid, cntOk, prod3, h2, h4, h6, h8, hβ1, hβ2, c39, c55]; done) | (rcases c55' with hh | hh <;> simp only [hh, isGrid, cntOk, prod3, h2, h4, h6, h8, hβ1, hβ2, c39, c55]; done) | (rcases c55' with hh | hh <;> simp_all [isGrid, cntOk, prod3]; done) | (rcases c55' with hh | hh | hh <;> simp_all [isGrid, cntOk, prod3]; done) | (rcases c55' with hh | hh | hh | hh <;> simp_all [isGrid, cntOk, prod3]; done) | (simp_all [isGrid, cntOk, prod3]; done) | rfl
    exact (by first | rfl | rw [x57])
  rw [Bool.not_eq_false'] at c55
  have c55' := c55
  (try simp only [hβ1, hβ2] at c55')
  (try simp only [icmp, Bool.and_eq_true, Bool.or_eq_true, Bool.and_eq_false_iff, Bool.or_eq_false_iff, Bool.not_eq_true', Bool.not_eq_false', decide_eq_true_eq, decide_eq_false_iff_not, beq_iff_eq, bne_iff_ne, beq_eq_false_iff_ne, bne_eq_false_iff_eq] at c55')
  refine wp_skip (hK49 _ _ ?_)
  refine wp_region_lit ?_
  refine q_is rfl rfl (does_iarith (p := 0) (q := 1) (r := (1)) (ev rfl) (ev rfl) (.inl ⟨rfl, rfl⟩)) (by dsimp only [List.set]; try rfl) ?_
  refine q_is rfl rfl (does_move (u := (Iv 1)) (ev rfl)) (by dsimp only [List.set]; try rfl) ?_
  refine wpList_nil ?_
  refine un_step ?_
  refine wp_seq_k fun K58 hK58 => ?_
  refine wp_region_lit ?_
  refine q_is rfl rfl (does_icmp (p := 1) (q := 3) (.inr (.inr (.inl rfl))) (ev rfl) (ev rfl)) (by dsimp only [List.set]; try rfl) ?_
  refine wpList_nil (hK58 _ _ ?_)
  refine wp_seq_k fun K59 hK59 => ?_
  refine wp_cond_true (ev rfl) ?_
  refine wp_skip (hK59 _ _ ?_)
  refine wp_seq_k fun K60 hK60 => ?_
  refine wp_block ?_
  refine wp_seq_k fun K61 hK61 => ?_
  refine wp_region_lit ?_
  refine q_is rfl rfl (does_index_run (r := (Iv A_g.y)) (ev rfl) (ev rfl) (fun w => ix55_1 _ _ _ w)) (by dsimp only [List.set]; try rfl) ?_
  refine q_is rfl rfl (does_assign (u := (Iv A_g.y)) (ev rfl)) (by dsimp only [List.set]; try rfl) ?_
  refine wpList_nil (hK61 _ _ ?_)
  refine wp_seq_k fun K62 hK62 => ?_
  refine wp_region_lit ?_
  refine q_is rfl rfl (does_move (u := (Iv A_g.y)) (ev rfl)) (by dsimp only [List.set]; try rfl) ?_
  refine seqd rfl rfl (does_call (args := #[(Iv A_g.y), (Iv 1), (Iv 16)]) cal40 (evs rfl) (c_impl_in A_g.y 1 16 _)) ?_; rintro _ w64 ⟨E63, rfl⟩
  have X65 := Ext.gr X54 E63
  show wpList _ _ _ _ (fr [_, _, _, _, _, _, _, _, _, _, _, _, _, _, _, _, _, _, _, _, _, _, _, _, _, _, _, _, _, _, _, _, _, _, _, _, _, _, _, _, _]) _
  refine q_is rfl rfl (does_not (ev rfl)) (by dsimp only [List.set]; try rfl) ?_
  refine wpList_nil (hK62 _ _ ?_)
  refine wp_cond_split (t := !(inI A_g.y 1 16)) (ev rfl) (fun c66 => ?_) (fun c66 => ?_)
  · rw [Bool.not_eq_true'] at c66
    have c66' := c66
    (try simp only [hβ1, hβ2] at c66')
    (try simp only [icmp, Bool.and_eq_true, Bool.or_eq_true, Bool.and_eq_false_iff, Bool.or_eq_false_iff, Bool.not_eq_true', Bool.not_eq_false', decide_eq_true_eq, decide_eq_false_iff_not, beq_iff_eq, bne_iff_ne, beq_eq_false_iff_ne, bne_eq_false_iff_eq] at c66')
    refine wp_seq_k fun K67 hK67 => ?_
    refine wp_region_lit ?_
    refine q_is rfl rfl (does_assign (u := (Bo false)) (ev rfl)) (by dsimp only [List.set]; try rfl) ?_
    refine wpList_nil (hK67 _ _ ?_)
    refine wp_ret ?_
    dsimp only [Exit.then, Exit.inBlock]
    refine ret_val (v := (Bo false)) (res_T rfl (slot rfl)) X65 ?_
    try simp only [h2, h4, h6, h8, hβ1, hβ2] at c39 c55 c66
    have x68 : (isGrid A_g) = false := by first | with_reducible rfl | (simp only [isGrid, cntOk, prod3, h2, h4, h6, h8, hβ1, hβ2, c39, c55, c66]; done) | (simp [isGrid, cntOk, prod3, h2, h4, h6, h8, hβ1, hβ2, c39, c55, c66]; done) | (revert c39 c55 c66; simp +contextual [isGrid, cntOk, prod3, h2, h4, h6, h8, hβ1, hβ2]; done) | (rcases c39' with hh | hh <;> simp only [hh, isGrid, cntOk, prod3, h2, h4, h6, h8, hβ1, hβ2, c39, c55, c66]; done) | (rcases c55' with hh | hh <;> simp only [hh, isGrid, cntOk, prod3, h2, h4, h6, h8, hβ1, hβ2, c39, c55, c66]; done) | (rcases c66' with hh | hh <;> simp only [hh, isGrid, cntOk, prod3, h2, h4, h6, h8, hβ1, hβ2, c39, c55, c66]; done) | (rcases c66' with hh | hh <;> simp_all [isGrid, cntOk, prod3]; done) | (rcases c66' with hh | hh | hh <;> simp_all [isGrid, cntOk, prod3]; done) | (rcases c66' with hh | hh | hh | hh <;> simp_all [isGrid, cntOk, prod3]; done) | (simp_all [isGrid, cntOk, prod3]; done) | rfl
    exact (by first | rfl | rw [x68])
  rw [Bool.not_eq_false'] at c66
  have c66' := c66
  (try simp only [hβ1, hβ2] at c66')
  (try simp only [icmp, Bool.and_eq_true, Bool.or_eq_true, Bool.and_eq_false_iff, Bool.or_eq_false_iff, Bool.not_eq_true', Bool.not_eq_false', decide_eq_true_eq, decide_eq_false_iff_not, beq_iff_eq, bne_iff_ne, beq_eq_false_iff_ne, bne_eq_false_iff_eq] at c66')
  refine wp_skip (hK60 _ _ ?_)
  refine wp_region_lit ?_
  refine q_is rfl rfl (does_iarith (p := 1) (q := 1) (r := (2)) (ev rfl) (ev rfl) (.inl ⟨rfl, rfl⟩)) (by dsimp only [List.set]; try rfl) ?_
  refine q_is rfl rfl (does_move (u := (Iv 2)) (ev rfl)) (by dsimp only [List.set]; try rfl) ?_
  refine wpList_nil ?_
  refine un_step ?_
  refine wp_seq_k fun K69 hK69 => ?_
  refine wp_region_lit ?_
  refine q_is rfl rfl (does_icmp (p := 2) (q := 3) (.inr (.inr (.inl rfl))) (ev rfl) (ev rfl)) (by dsimp only [List.set]; try rfl) ?_
  refine wpList_nil (hK69 _ _ ?_)
  refine wp_seq_k fun K70 hK70 => ?_
  refine wp_cond_true (ev rfl) ?_
  refine wp_skip (hK70 _ _ ?_)
  refine wp_seq_k fun K71 hK71 => ?_
  refine wp_block ?_
  refine wp_seq_k fun K72 hK72 => ?_
  refine wp_region_lit ?_
  refine q_is rfl rfl (does_index_run (r := (Iv A_g.z)) (ev rfl) (ev rfl) (fun w => ix55_2 _ _ _ w)) (by dsimp only [List.set]; try rfl) ?_
  refine q_is rfl rfl (does_assign (u := (Iv A_g.z)) (ev rfl)) (by dsimp only [List.set]; try rfl) ?_
  refine wpList_nil (hK72 _ _ ?_)
  refine wp_seq_k fun K73 hK73 => ?_
  refine wp_region_lit ?_
  refine q_is rfl rfl (does_move (u := (Iv A_g.z)) (ev rfl)) (by dsimp only [List.set]; try rfl) ?_
  refine seqd rfl rfl (does_call (args := #[(Iv A_g.z), (Iv 1), (Iv 16)]) cal40 (evs rfl) (c_impl_in A_g.z 1 16 _)) ?_; rintro _ w75 ⟨E74, rfl⟩
  have X76 := Ext.gr X65 E74
  show wpList _ _ _ _ (fr [_, _, _, _, _, _, _, _, _, _, _, _, _, _, _, _, _, _, _, _, _, _, _, _, _, _, _, _, _, _, _, _, _, _, _, _, _, _, _, _, _]) _
  refine q_is rfl rfl (does_not (ev rfl)) (by dsimp only [List.set]; try rfl) ?_
  refine wpList_nil (hK73 _ _ ?_)
  refine wp_cond_split (t := !(inI A_g.z 1 16)) (ev rfl) (fun c77 => ?_) (fun c77 => ?_)
  · rw [Bool.not_eq_true'] at c77
    have c77' := c77
    (try simp only [hβ1, hβ2] at c77')
    (try simp only [icmp, Bool.and_eq_true, Bool.or_eq_true, Bool.and_eq_false_iff, Bool.or_eq_false_iff, Bool.not_eq_true', Bool.not_eq_false', decide_eq_true_eq, decide_eq_false_iff_not, beq_iff_eq, bne_iff_ne, beq_eq_false_iff_ne, bne_eq_false_iff_eq] at c77')
    refine wp_seq_k fun K78 hK78 => ?_
    refine wp_region_lit ?_
    refine q_is rfl rfl (does_assign (u := (Bo false)) (ev rfl)) (by dsimp only [List.set]; try rfl) ?_
    refine wpList_nil (hK78 _ _ ?_)
    refine wp_ret ?_
    dsimp only [Exit.then, Exit.inBlock]
    refine ret_val (v := (Bo false)) (res_T rfl (slot rfl)) X76 ?_
    try simp only [h2, h4, h6, h8, hβ1, hβ2] at c39 c55 c66 c77
    have x79 : (isGrid A_g) = false := by first | with_reducible rfl | (simp only [isGrid, cntOk, prod3, h2, h4, h6, h8, hβ1, hβ2, c39, c55, c66, c77]; done) | (simp [isGrid, cntOk, prod3, h2, h4, h6, h8, hβ1, hβ2, c39, c55, c66, c77]; done) | (revert c39 c55 c66 c77; simp +contextual [isGrid, cntOk, prod3, h2, h4, h6, h8, hβ1, hβ2]; done) | (rcases c39' with hh | hh <;> simp only [hh, isGrid, cntOk, prod3, h2, h4, h6, h8, hβ1, hβ2, c39, c55, c66, c77]; done) | (rcases c55' with hh | hh <;> simp only [hh, isGrid, cntOk, prod3, h2, h4, h6, h8, hβ1, hβ2, c39, c55, c66, c77]; done) | (rcases c66' with hh | hh <;> simp only [hh, isGrid, cntOk, prod3, h2, h4, h6, h8, hβ1, hβ2, c39, c55, c66, c77]; done) | (rcases c77' with hh | hh <;> simp only [hh, isGrid, cntOk, prod3, h2, h4, h6, h8, hβ1, hβ2, c39, c55, c66, c77]; done) | (rcases c77' with hh | hh <;> simp_all [isGrid, cntOk, prod3]; done) | (rcases c77' with hh | hh | hh <;> simp_all [isGrid, cntOk, prod3]; done) | (rcases c77' with hh | hh | hh | hh <;> simp_all [isGrid, cntOk, prod3]; done) | (simp_all [isGrid, cntOk, prod3]; done) | rfl
    exact (by first | rfl | rw [x79])
  rw [Bool.not_eq_false'] at c77
  have c77' := c77
  (try simp only [hβ1, hβ2] at c77')
  (try simp only [icmp, Bool.and_eq_true, Bool.or_eq_true, Bool.and_eq_false_iff, Bool.or_eq_false_iff, Bool.not_eq_true', Bool.not_eq_false', decide_eq_true_eq, decide_eq_false_iff_not, beq_iff_eq, bne_iff_ne, beq_eq_false_iff_ne, bne_eq_false_iff_eq] at c77')
  refine wp_skip (hK71 _ _ ?_)
  refine wp_region_lit ?_
  refine q_is rfl rfl (does_iarith (p := 2) (q := 1) (r := (3)) (ev rfl) (ev rfl) (.inl ⟨rfl, rfl⟩)) (by dsimp only [List.set]; try rfl) ?_
  refine q_is rfl rfl (does_move (u := (Iv 3)) (ev rfl)) (by dsimp only [List.set]; try rfl) ?_
  refine wpList_nil ?_
  refine un_step ?_
  refine wp_seq_k fun K80 hK80 => ?_
  refine wp_region_lit ?_
  refine q_is rfl rfl (does_icmp (p := 3) (q := 3) (.inr (.inr (.inl rfl))) (ev rfl) (ev rfl)) (by dsimp only [List.set]; try rfl) ?_
  refine wpList_nil (hK80 _ _ ?_)
  refine wp_seq_k fun K81 hK81 => ?_
  refine wp_cond_false (ev rfl) ?_
  refine wp_exit ?_
  refine hK42 _ _ ?_
  refine wp_seq_k fun K82 hK82 => ?_
  refine wp_region_lit ?_
  refine q_is rfl rfl (does_fieldAddr (ev rfl) fa31_2) (by dsimp only [List.set]; try rfl) ?_
  refine q_is rfl rfl (does_load (u := (Iv A_g.x)) (ev rfl) Try.isAgg2 (Cells.at (Blk.cells (((((hB17.ext E35).ext E44).ext E52).ext E63).ext E74)) 4 rfl)) (by dsimp only [List.set]; try rfl) ?_
  refine q_is rfl rfl (does_fieldAddr (ev rfl) fa31_3) (by dsimp only [List.set]; try rfl) ?_
  refine q_is rfl rfl (does_load (u := (Iv A_g.y)) (ev rfl) Try.isAgg2 (Cells.at (Blk.cells (((((hB17.ext E35).ext E44).ext E52).ext E63).ext E74)) 5 rfl)) (by dsimp only [List.set]; try rfl) ?_
  refine q_is rfl rfl (does_iarith (p := A_g.x) (q := A_g.y) (r := IntKind.i64.wrap (A_g.x * A_g.y)) (ev rfl) (ev rfl) (.inr (.inr ⟨rfl, rfl⟩))) (by dsimp only [List.set]; try rfl) ?_
  refine q_is rfl rfl (does_fieldAddr (ev rfl) fa31_4) (by dsimp only [List.set]; try rfl) ?_
  refine q_is rfl rfl (does_load (u := (Iv A_g.z)) (ev rfl) Try.isAgg2 (Cells.at (Blk.cells (((((hB17.ext E35).ext E44).ext E52).ext E63).ext E74)) 6 rfl)) (by dsimp only [List.set]; try rfl) ?_
  refine q_is rfl rfl (does_iarith (p := IntKind.i64.wrap (A_g.x * A_g.y)) (q := A_g.z) (r := IntKind.i64.wrap ((IntKind.i64.wrap (A_g.x * A_g.y)) * A_g.z)) (ev rfl) (ev rfl) (.inr (.inr ⟨rfl, rfl⟩))) (by dsimp only [List.set]; try rfl) ?_
  refine q_is rfl rfl (does_assign (u := (Iv (IntKind.i64.wrap ((IntKind.i64.wrap (A_g.x * A_g.y)) * A_g.z)))) (ev rfl)) (by dsimp only [List.set]; try rfl) ?_
  refine wpList_nil (hK82 _ _ ?_)
  refine wp_seq_k fun K83 hK83 => ?_
  obtain ⟨β3, hβ3⟩ : ∃ b : Bool, b = (icmp .leq (IntKind.i64.wrap ((IntKind.i64.wrap (A_g.x * A_g.y)) * A_g.z)) 1024) := ⟨_, rfl⟩
  obtain ⟨β4, hβ4⟩ : ∃ b : Bool, b = (icmp .eql (A_g.vals.length : Int) (IntKind.i64.wrap ((IntKind.i64.wrap (A_g.x * A_g.y)) * A_g.z))) := ⟨_, rfl⟩
  refine region_text (
    [Fact.pure [] (fun v => v = (Iv (IntKind.i64.wrap ((IntKind.i64.wrap (A_g.x * A_g.y)) * A_g.z)))),
    Fact.pure [32] (fun v => v = (Bo β3)),
    Fact.pure [33] (fun v => v = (Bo β3)),
    Fact.pure [34] (fun v => β3 = true → v = (Pt b15 7)),
    Fact.pure [35, 34] (fun v => β3 = true → v = (.slice p11 A_g.vals.length q12)),
    Fact.pure [36, 34] (fun v => β3 = true → v = (Iv (A_g.vals.length : Int))),
    Fact.pure [34] (fun v => β3 = true → v = (Iv (IntKind.i64.wrap ((IntKind.i64.wrap (A_g.x * A_g.y)) * A_g.z)))),
    Fact.pure [37, 38, 34] (fun v => β3 = true → v = (Bo β4)),
    Fact.pure [34, 39] (fun v => v = (Bo (β3 && β4)))]) (by simp [Fact.pure, Fact.mem]) ?_
  refine RW_d _ rfl (fun v => by dsimp only [List.set]; try rfl) (fun u hu hF => ?_) (fun v84 => ?_)
  · clear hF
    refine doesG_un rfl ?_
    refine (does_move (u := (Iv (IntKind.i64.wrap ((IntKind.i64.wrap (A_g.x * A_g.y)) * A_g.z)))) (ev rfl)).mono ?_; rintro _ _ ⟨rfl, rfl⟩
    exact ⟨rfl, Ext.refl _⟩
  refine RW_d _ rfl (fun v => by dsimp only [List.set]; try rfl) (fun u hu hF => ?_) (fun v85 => ?_)
  · have h32_ : v84 = (Iv (IntKind.i64.wrap ((IntKind.i64.wrap (A_g.x * A_g.y)) * A_g.z))) := hF.1
    clear hF
    refine doesG_un rfl ?_
    obtain rfl := h32_
    refine (does_icmp (p := IntKind.i64.wrap ((IntKind.i64.wrap (A_g.x * A_g.y)) * A_g.z)) (q := 1024) (.inr (.inr (.inr (.inl rfl)))) (ev rfl) (ev rfl)).mono ?_; rintro _ _ ⟨rfl, rfl⟩
    exact ⟨(by first | rfl | (show _ = _; simp only [hβ3]; done) | (show _ = _; simp only [hβ3]; rfl)), Ext.refl _⟩
  refine RW_d _ rfl (fun v => by dsimp only [List.set]; try rfl) (fun u hu hF => ?_) (fun v86 => ?_)
  · have h33_ : v85 = (Bo β3) := hF.1
    clear hF
    refine doesG_un rfl ?_
    obtain rfl := h33_
    refine (does_move (u := (Bo β3)) (ev rfl)).mono ?_; rintro _ _ ⟨rfl, rfl⟩
    exact ⟨rfl, Ext.refl _⟩
  refine RW_d _ rfl (fun v => by dsimp only [List.set]; try rfl) (fun u hu hF => ?_) (fun v87 => ?_)
  · have h34_ : v86 = (Bo β3) := hF.1
    clear hF
    obtain rfl := h34_
    refine doesG_g (b := β3) rfl (yld rfl rfl) (fun hg1 => ?_) (fun hc => ⟨fun hg1 => absurd hg1 hc, Ext.refl _⟩)
    refine (does_fieldAddr (ev rfl) fa31_5).mono ?_; rintro _ _ ⟨rfl, rfl⟩
    exact ⟨fun _ => rfl, Ext.refl _⟩
  refine RW_d _ rfl (fun v => by dsimp only [List.set]; try rfl) (fun u hu hF => ?_) (fun v88 => ?_)
  · have h35_ : β3 = true → v87 = (Pt b15 7) := hF.1
    have h34_ : v86 = (Bo β3) := hF.2.1
    clear hF
    obtain rfl := h34_
    refine doesG_g (b := β3) rfl (yld rfl rfl) (fun hg1 => ?_) (fun hc => ⟨fun hg1 => absurd hg1 hc, Ext.refl _⟩)
    obtain rfl := h35_ hg1
    refine (does_load (u := (.slice p11 A_g.vals.length q12)) (ev rfl) Try.isAgg25 (Cells.at (Blk.cells ((((((hB17.ext E35).ext E44).ext E52).ext E63).ext E74).ext hu)) 7 rfl)).mono ?_; rintro _ _ ⟨rfl, rfl⟩
    exact ⟨fun _ => rfl, Ext.refl _⟩
  refine RW_d _ rfl (fun v => by dsimp only [List.set]; try rfl) (fun u hu hF => ?_) (fun v89 => ?_)
  · have h36_ : β3 = true → v88 = (.slice p11 A_g.vals.length q12) := hF.1
    have h34_ : v86 = (Bo β3) := hF.2.1
    clear hF
    obtain rfl := h34_
    refine doesG_g (b := β3) rfl (yld rfl rfl) (fun hg1 => ?_) (fun hc => ⟨fun hg1 => absurd hg1 hc, Ext.refl _⟩)
    obtain rfl := h36_ hg1
    refine (does_len_slice Try.underlying25 (ev rfl)).mono ?_; rintro _ _ ⟨rfl, rfl⟩
    exact ⟨fun _ => rfl, Ext.refl _⟩
  refine RW_d _ rfl (fun v => by dsimp only [List.set]; try rfl) (fun u hu hF => ?_) (fun v90 => ?_)
  · have h34_ : v86 = (Bo β3) := hF.1
    clear hF
    obtain rfl := h34_
    refine doesG_g (b := β3) rfl (yld rfl rfl) (fun hg1 => ?_) (fun hc => ⟨fun hg1 => absurd hg1 hc, Ext.refl _⟩)
    refine (does_move (u := (Iv (IntKind.i64.wrap ((IntKind.i64.wrap (A_g.x * A_g.y)) * A_g.z)))) (ev rfl)).mono ?_; rintro _ _ ⟨rfl, rfl⟩
    exact ⟨fun _ => rfl, Ext.refl _⟩
  refine RW_d _ rfl (fun v => by dsimp only [List.set]; try rfl) (fun u hu hF => ?_) (fun v91 => ?_)
  · have h37_ : β3 = true → v89 = (Iv (A_g.vals.length : Int)) := hF.1
    have h38_ : β3 = true → v90 = (Iv (IntKind.i64.wrap ((IntKind.i64.wrap (A_g.x * A_g.y)) * A_g.z))) := hF.2.1
    have h34_ : v86 = (Bo β3) := hF.2.2.1
    clear hF
    obtain rfl := h34_
    refine doesG_g (b := β3) rfl (yld rfl rfl) (fun hg1 => ?_) (fun hc => ⟨fun hg1 => absurd hg1 hc, Ext.refl _⟩)
    obtain rfl := h37_ hg1
    obtain rfl := h38_ hg1
    refine (does_icmp (p := (A_g.vals.length : Int)) (q := IntKind.i64.wrap ((IntKind.i64.wrap (A_g.x * A_g.y)) * A_g.z)) (.inl rfl) (ev rfl) (ev rfl)).mono ?_; rintro _ _ ⟨rfl, rfl⟩
    exact ⟨fun _ => (by first | rfl | (show _ = _; simp only [hβ4]; done) | (show _ = _; simp only [hβ4]; rfl)), Ext.refl _⟩
  refine RW_d _ rfl (fun v => by dsimp only [List.set]; try rfl) (fun u hu hF => ?_) (fun v92 => ?_)
  · have h34_ : v86 = (Bo β3) := hF.1
    have h39_ : β3 = true → v91 = (Bo β4) := hF.2.1
    clear hF
    refine doesG_un rfl ?_
    skip
    obtain rfl := h34_
    refine (does_pick (b := β3) (ev rfl) (ev rfl) (ev rfl)).mono ?_; rintro _ _ ⟨rfl, rfl⟩; refine ⟨?_, Ext.refl _⟩; skip
    cases hbb : β3
    all_goals first | rfl | (have e_ := h39_ hbb; subst e_; rfl) | (simp [hbb] at h39_ ⊢; first | done | rfl | (subst h39_; rfl) | simp_all) | (simp [hbb] at h39_ ⊢; done)
  refine RW_fin ?_; intro w93 E94 hP95
  obtain ⟨⟨⟨⟨⟨⟨⟨⟨⟨-, -⟩, -⟩, -⟩, -⟩, -⟩, -⟩, -⟩, -⟩, q96⟩ := hP95
  have X97 := Ext.gr X76 E94
  have q96 : v92 = (Bo (β3 && β4)) := q96
  obtain rfl := q96
  show wpList _ _ _ _ (fr [_, _, _, _, _, _, _, _, _, _, _, _, _, _, _, _, _, _, _, _, _, _, _, _, _, _, _, _, _, _, _, _, _, _, _, _, _, _, _, _, _]) _
  refine q_is rfl rfl (does_assign (u := (Bo (β3 && β4))) (ev rfl)) (by dsimp only [List.set]; try rfl) ?_
  refine wpList_nil (hK83 _ _ ?_)
  refine wp_ret ?_
  refine ret_val (v := (Bo (β3 && β4))) (res_T rfl (slot rfl)) X97 ?_
  try simp only [h2, h4, h6, h8, hβ1, hβ2, hβ3, hβ4] at c39 c55 c66 c77
  have x98 : (isGrid A_g) = (β3 && β4) := by first | with_reducible rfl | (simp only [isGrid, cntOk, prod3, h2, h4, h6, h8, hβ1, hβ2, hβ3, hβ4, c39, c55, c66, c77]; done) | (simp [isGrid, cntOk, prod3, h2, h4, h6, h8, hβ1, hβ2, hβ3, hβ4, c39, c55, c66, c77]; done) | (revert c39 c55 c66 c77; simp +contextual [isGrid, cntOk, prod3, h2, h4, h6, h8, hβ1, hβ2, hβ3, hβ4]; done) | (rcases c39' with hh | hh <;> simp only [hh, isGrid, cntOk, prod3, h2, h4, h6, h8, hβ1, hβ2, hβ3, hβ4, c39, c55, c66, c77]; done) | (rcases c55' with hh | hh <;> simp only [hh, isGrid, cntOk, prod3, h2, h4, h6, h8, hβ1, hβ2, hβ3, hβ4, c39, c55, c66, c77]; done) | (rcases c66' with hh | hh <;> simp only [hh, isGrid, cntOk, prod3, h2, h4, h6, h8, hβ1, hβ2, hβ3, hβ4, c39, c55, c66, c77]; done) | (rcases c77' with hh | hh <;> simp only [hh, isGrid, cntOk, prod3, h2, h4, h6, h8, hβ1, hβ2, hβ3, hβ4, c39, c55, c66, c77]; done) | (rcases c77' with hh | hh <;> simp_all [isGrid, cntOk, prod3]; done) | (rcases c77' with hh | hh | hh <;> simp_all [isGrid, cntOk, prod3]; done) | (rcases c77' with hh | hh | hh | hh <;> simp_all [isGrid, cntOk, prod3]; done) | (simp_all [isGrid, cntOk, prod3]; done) | rfl
  exact (by first | rfl | rw [x98])

/- slices.Clone[[]float32,float32] -/
theorem c_slices_Clone_float32_float32 (xs : Value) (L_xs : List Nat) (w : World) (hv_xs : Sl RF 1 w xs L_xs) (hne : 0 < L_xs.length ∧ L_xs.length ≤ 1048576) : Gives Try.prog 57 #[xs] w (fun v w' => ∃ y_1 : Value, ∃ Lw_2 : List Nat, v = y_1 ∧ Hang w.heap.size w' (fun u => Sl RF 1 u y_1 L_xs) ∧ WL 1 w.heap.size w' Lw_2 y_1 L_xs.length) := by
  have hlen_xs := Sl.len hv_xs; obtain ⟨p_xs, q_xs, rfl⟩ := Sl.shape hv_xs
  have hso := Sl.some_of hv_xs hne.1
  refine enter [(.slice p_xs L_xs.length q_xs), Ud, Ud, Ud, Ud, Ud, Ud, Ud] Try.func57 rfl Try.ntmps57 rfl ?_
  refine wp_seq_k fun K1 hK1 => ?_
  refine wp_region_lit ?_
  refine q_is (l' := [(.slice p_xs L_xs.length q_xs), Ud, (.slice none 0 0), Ud, Ud, Ud, Ud, Ud]) rfl rfl (does_assign (u := (.slice none 0 0)) (ev rfl)) rfl ?_
  refine wpList_nil (hK1 _ _ ?_)
  refine wp_seq_k fun K2 hK2 => ?_
  refine wp_seq_k fun K3 hK3 => ?_
  refine wp_region_lit ?_
  refine q_is (l' := [(.slice p_xs L_xs.length q_xs), Ud, (.slice none 0 0), (.slice p_xs L_xs.length q_xs), Ud, Ud, Ud, Ud]) rfl rfl (does_move (u := (.slice p_xs L_xs.length q_xs)) (ev rfl)) rfl ?_
  refine q_is (l' := [(.slice p_xs L_xs.length q_xs), Ud, (.slice none 0 0), (.slice p_xs L_xs.length q_xs), (Bo p_xs.isNone), Ud, Ud, Ud]) rfl rfl (does_slnil Try.underlying25 (ev rfl) (ev rfl)) rfl ?_
  refine wpList_nil (hK3 _ _ ?_)
  refine wp_cond_split (t := p_xs.isNone) (ev rfl) (fun c4 => ?_) (fun c4 => ?_)
  · have c4' := c4
    rw [hso] at c4; cases c4
  have c4' := c4
  refine wp_skip (hK2 _ _ ?_)
  refine wp_seq_k fun K5 hK5 => ?_
  refine wp_region_lit ?_
  refine seqd rfl rfl (does_slice0 (e := 22) (fun _ => by kernel_rfl)) ?_; rintro _ w11 ⟨b6, rfl, hb7, hl8, hO9, E10⟩
  have X12 := Ext.gr (Ext.refl w) E10
  have hO13 := hO9 _ RF 1
  have hH14 : Hang w.heap.size w11 (fun u => Sl RF 1 u (.slice (some ⟨b6, 0, none⟩) 0 0) ([])) := Own.hang hO13 RF.flat (by decide) hb7 (Below.size E10)
  show wpList _ _ _ _ (fr [(.slice p_xs L_xs.length q_xs), Ud, (.slice none 0 0), (.slice p_xs L_xs.length q_xs), (Bo p_xs.isNone), (.slice (some ⟨b6, 0, none⟩) 0 0), Ud, Ud]) _
  refine q_is (l' := [(.slice p_xs L_xs.length q_xs), Ud, (.slice none 0 0), (.slice p_xs L_xs.length q_xs), (Bo p_xs.isNone), (.slice (some ⟨b6, 0, none⟩) 0 0), (.slice p_xs L_xs.length q_xs), Ud]) rfl rfl (does_move (u := (.slice p_xs L_xs.length q_xs)) (ev rfl)) rfl ?_
  refine seqd rfl rfl (does_appendF (g0 := b6) (B := w11.heap.size) (xs := ([])) (ys := L_xs) Try.underlying25 inf22 (ev rfl) (ev rfl) hO13 (Sl.ext hv_xs RF.mono X12) (by omega) (by first | (simp only [List.length_nil]; omega) | omega) (Nat.le_refl _)) ?_; rintro y' w15 ⟨gg16, hg17, K18, hO19⟩
  have hN20 : w.heap.size ≤ gg16 := by rcases hg17 with h | h; exact h ▸ hb7; exact Nat.le_trans (Below.size E10) h
  have g21 : w.heap.size ≤ gg16 := Nat.le_trans (Nat.le_refl _) hN20
  have X22 := Below.kl X12 K18 (allS g21 all0) (Nat.le_refl _)
  replace hO19 := hO19.cast (List.nil_append _)
  obtain ⟨p23, q24, rfl⟩ := Own.shape hO19
  have hH25 : Hang w.heap.size w15 (fun u => Sl RF 1 u (.slice p23 L_xs.length q24) L_xs) := Own.hang hO19 RF.flat (by decide) hb7 (Below.size E10)
  show wpList _ _ _ _ (fr [(.slice p_xs L_xs.length q_xs), Ud, (.slice none 0 0), (.slice p_xs L_xs.length q_xs), (Bo p_xs.isNone), (.slice (some ⟨b6, 0, none⟩) 0 0), (.slice p_xs L_xs.length q_xs), (.slice p23 L_xs.length q24)]) _
  refine q_is (l' := [(.slice p_xs L_xs.length q_xs), Ud, (.slice p23 L_xs.length q24), (.slice p_xs L_xs.length q_xs), (Bo p_xs.isNone), (.slice (some ⟨b6, 0, none⟩) 0 0), (.slice p_xs L_xs.length q_xs), (.slice p23 L_xs.length q24)]) rfl rfl (does_assign (u := (.slice p23 L_xs.length q24)) (ev rfl)) rfl ?_
  refine wpList_nil (hK5 _ _ ?_)
  refine wp_ret ?_
  refine ret_val (v := (.slice p23 L_xs.length q24)) (res_T rfl (slot rfl)) X22 ?_
  obtain ⟨Lw26, hw27⟩ : ∃ L, WL 1 w.heap.size w15 L (.slice p23 L_xs.length q24) L_xs.length := Own.wl hO19 (Nat.le_trans (Nat.le_refl _) hb7) (Nat.le_trans (Nat.le_refl _) (Below.size E10))
  exact ⟨(.slice p23 L_xs.length q24), Lw26, rfl, (Own.hang hO19 RF.flat (by decide) (Nat.le_trans (Nat.le_refl _) hb7) (Nat.le_trans (Nat.le_refl _) (Below.size E10))), hw27⟩

/- impl.cloneGrid -/
theorem c_impl_cloneGrid (g : List Value) (A_g : GridT) (w : World) (hv_g : RGridT w A_g g) (hne : 0 < A_g.vals.length ∧ A_g.vals.length ≤ 1048576) : Gives Try.prog 45 #[(.agg g.toArray)] w (fun v w' => ∃ cs_1 : List Value, ∃ Lw_2 : List Nat, v = (.agg cs_1.toArray) ∧ Hang w.heap.size w' (fun u => RGridT u A_g cs_1) ∧ WL 1 w.heap.size w' Lw_2 (cellN cs_1 7) A_g.vals.length) := by
  obtain ⟨r1, r3, r5, r7, y9, rfl, h2, h4, h6, h8, h10⟩ := hv_g
  have hs13 := h10; have hs13l := Sl.len h10; obtain ⟨p11, q12, rfl⟩ := Sl.shape h10
  refine enter [(.agg #[(Fl r1), (Fl r3), (Fl r5), (Fl r7), (Iv A_g.x), (Iv A_g.y), (Iv A_g.z), (.slice p11 A_g.vals.length q12)]), Ud, Ud, Ud, Ud, Ud, Ud, Ud] Try.func45 rfl Try.ntmps45 rfl ?_
  refine wp_seq_k fun K14 hK14 => ?_
  refine wp_region_lit ?_
  refine seqd rfl rfl (does_box (u := (.agg #[(Fl r1), (Fl r3), (Fl r5), (Fl r7), (Iv A_g.x), (Iv A_g.y), (Iv A_g.z), (.slice p11 A_g.vals.length q12)])) (ev rfl)) ?_; rintro _ w19 ⟨b15, rfl, hb16, hB17, E18⟩
  have g20 : w.heap.size ≤ b15 := Nat.le_trans (Below.size (Ext.refl w)) hb16
  change Blk _ _ [(Fl r1), (Fl r3), (Fl r5), (Fl r7), (Iv A_g.x), (Iv A_g.y), (Iv A_g.z), (.slice p11 A_g.vals.length q12)] at hB17
  have X21 := Ext.gr (Ext.refl w) E18
  show wpList _ _ _ _ (fr [(.agg #[(Fl r1), (Fl r3), (Fl r5), (Fl r7), (Iv A_g.x), (Iv A_g.y), (Iv A_g.z), (.slice p11 A_g.vals.length q12)]), (Pt b15 0), Ud, Ud, Ud, Ud, Ud, Ud]) _
  refine seqd rfl rfl (does_alloc z31) ?_; rintro _ w26 ⟨b22, rfl, hb23, hB24, E25⟩
  have n27 : b15 < b22 := Nat.lt_of_lt_of_le (Blk.lt hB17) hb23
  have g28 : w.heap.size ≤ b22 := Nat.le_trans (Below.size X21) hb23
  change Blk _ _ [(Fl 0), (Fl 0), (Fl 0), (Fl 0), (Iv 0), (Iv 0), (Iv 0), (.slice none 0 0)] at hB24
  have X29 := Ext.gr X21 E25
  show wpList _ _ _ _ (fr [(.agg #[(Fl r1), (Fl r3), (Fl r5), (Fl r7), (Iv A_g.x), (Iv A_g.y), (Iv A_g.z), (.slice p11 A_g.vals.length q12)]), (Pt b15 0), (Pt b22 0), Ud, Ud, Ud, Ud, Ud]) _
  refine wpList_nil (hK14 _ _ ?_)
  refine wp_seq_k fun K30 hK30 => ?_
  refine wp_region_lit ?_
  refine q_is (l' := [(.agg #[(Fl r1), (Fl r3), (Fl r5), (Fl r7), (Iv A_g.x), (Iv A_g.y), (Iv A_g.z), (.slice p11 A_g.vals.length q12)]), (Pt b15 0), (Pt b22 0), (Pt b15 7), Ud, Ud, Ud, Ud]) rfl rfl (does_fieldAddr (ev rfl) fa31_5) rfl ?_
  refine q_is (l' := [(.agg #[(Fl r1), (Fl r3), (Fl r5), (Fl r7), (Iv A_g.x), (Iv A_g.y), (Iv A_g.z), (.slice p11 A_g.vals.length q12)]), (Pt b15 0), (Pt b22 0), (Pt b15 7), (.slice p11 A_g.vals.length q12), Ud, Ud, Ud]) rfl rfl (does_load (u := (.slice p11 A_g.vals.length q12)) (ev rfl) Try.isAgg25 (Cells.at (Blk.cells (hB17.ext E25)) 7 rfl)) rfl ?_
  refine seqd rfl rfl (does_call (args := #[(.slice p11 A_g.vals.length q12)]) cal57 (evs rfl) (c_slices_Clone_float32_float32 (.slice p11 A_g.vals.length q12) A_g.vals _ (Sl.ext hs13 RF.mono X29) (by omega))) ?_; rintro _ w32 ⟨E31, ⟨y34, Lw35, rfl, hh33, hw36⟩⟩
  have X37 := Ext.gr X29 E31
  have n38 : b15 < w26.heap.size := Blk.lt (hB17.ext E25)
  have n39 : b22 < w26.heap.size := Blk.lt hB24
  obtain ⟨p40, q41, rfl⟩ := Sl.shape hh33.get
  have hw42 : WL 1 w26.heap.size w32 Lw35 (.slice p40 A_g.vals.length q41) A_g.vals.length := hw36
  show wpList _ _ _ _ (fr [(.agg #[(Fl r1), (Fl r3), (Fl r5), (Fl r7), (Iv A_g.x), (Iv A_g.y), (Iv A_g.z), (.slice p11 A_g.vals.length q12)]), (Pt b15 0), (Pt b22 0), (Pt b15 7), (.slice p11 A_g.vals.length q12), (.slice p40 A_g.vals.length q41), Ud, Ud]) _
  refine q_is (l' := [(.agg #[(Fl r1), (Fl r3), (Fl r5), (Fl r7), (Iv A_g.x), (Iv A_g.y), (Iv A_g.z), (.slice p11 A_g.vals.length q12)]), (Pt b15 0), (Pt b22 0), (Pt b15 7), (.slice p11 A_g.vals.length q12), (.slice p40 A_g.vals.length q41), (Pt b15 7), Ud]) rfl rfl (does_fieldAddr (ev rfl) fa31_5) rfl ?_
  refine seqn rfl rfl (does_store (n := 1) (cs := [(Fl r1), (Fl r3), (Fl r5), (Fl r7), (Iv A_g.x), (Iv A_g.y), (Iv A_g.z), (.slice p11 A_g.vals.length q12)]) (u := (.slice p40 A_g.vals.length q41)) (ev rfl) (ev rfl) Try.sizeOf25 rfl ((hB17.ext E25).ext E31) (Nat.le_of_ble_eq_true rfl) rfl) ?_; rintro _ w45 ⟨rfl, W43, hB44⟩
  change Blk _ _ [(Fl r1), (Fl r3), (Fl r5), (Fl r7), (Iv A_g.x), (Iv A_g.y), (Iv A_g.z), (.slice p40 A_g.vals.length q41)] at hB44
  have X46 := Below.wr X37 W43 g20
  refine wpList_nil (hK30 _ _ ?_)
  refine wp_seq_k fun K47 hK47 => ?_
  refine wp_region_lit ?_
  refine q_is (l' := [(.agg #[(Fl r1), (Fl r3), (Fl r5), (Fl r7), (Iv A_g.x), (Iv A_g.y), (Iv A_g.z), (.slice p11 A_g.vals.length q12)]), (Pt b15 0), (Pt b22 0), (Pt b15 7), (.slice p11 A_g.vals.length q12), (.slice p40 A_g.vals.length q41), (Pt b15 7), (.agg #[(Fl r1), (Fl r3), (Fl r5), (Fl r7), (Iv A_g.x), (Iv A_g.y), (Iv A_g.z), (.slice p40 A_g.vals.length q41)])]) rfl rfl (does_loadAgg (cs := [(Fl r1), (Fl r3), (Fl r5), (Fl r7), (Iv A_g.x), (Iv A_g.y), (Iv A_g.z), (.slice p40 A_g.vals.length q41)]) (ev rfl) Try.isAgg31 Try.sizeOf31 (Blk.cells hB44) rfl) rfl ?_
  refine seqn rfl rfl (does_store (n := 8) (cs := [(Fl 0), (Fl 0), (Fl 0), (Fl 0), (Iv 0), (Iv 0), (Iv 0), (.slice none 0 0)]) (u := (.agg #[(Fl r1), (Fl r3), (Fl r5), (Fl r7), (Iv A_g.x), (Iv A_g.y), (Iv A_g.z), (.slice p40 A_g.vals.length q41)])) (ev rfl) (ev rfl) Try.sizeOf31 rfl ((hB24.ext E31).wr W43 (Nat.ne_of_gt n27)) (Nat.le_of_ble_eq_true rfl) rfl) ?_; rintro _ w50 ⟨rfl, W48, hB49⟩
  change Blk _ _ [(Fl r1), (Fl r3), (Fl r5), (Fl r7), (Iv A_g.x), (Iv A_g.y), (Iv A_g.z), (.slice p40 A_g.vals.length q41)] at hB49
  have X51 := Below.wr X46 W48 g28
  refine wpList_nil (hK47 _ _ ?_)
  refine wp_ret ?_
  refine ret_val (v := (.agg #[(Fl r1), (Fl r3), (Fl r5), (Fl r7), (Iv A_g.x), (Iv A_g.y), (Iv A_g.z), (.slice p40 A_g.vals.length q41)])) (res_C rfl (slot rfl) (run_loadAgg (cs := [(Fl r1), (Fl r3), (Fl r5), (Fl r7), (Iv A_g.x), (Iv A_g.y), (Iv A_g.z), (.slice p40 A_g.vals.length q41)]) Try.isAgg31 Try.sizeOf31 (Blk.cells hB49) rfl)) X51 ?_
  exact ⟨[(Fl r1), (Fl r3), (Fl r5), (Fl r7), (Iv A_g.x), (Iv A_g.y), (Iv A_g.z), (.slice p40 A_g.vals.length q41)], Lw35, rfl, fun u hu => ⟨r1, r3, r5, r7, (.slice p40 A_g.vals.length q41), rfl, h2, h4, h6, h8, ((Hang.to hh33 (((Same.refl _ _).wr W43 (.inl n38)).wr W48 (.inl n39))).le (Below.size (Ext.gr (Ext.gr (Ext.refl _) E18) E25))) u hu⟩, ((hw42.same (((Same.refl _ _).wr W43 (.inl n38)).wr W48 (.inl n39))).le (Below.size (Ext.gr (Ext.gr (Ext.refl _) E18) E25)))⟩

/- impl.SweepGrid -/
theorem c_impl_SweepGrid (g : List Value) (A_g : GridT) (n_ : Int) (w : World) (hv_g : RGridT w A_g g) : Gives Try.prog 20 #[(.agg g.toArray), (Iv n_)] w (fun v w' => ∃ cs_1 : List Value, ∃ Lw_2 : List Nat, v = (.tuple #[(.agg cs_1.toArray), (Bo (swpOk A_g n_))]) ∧ Hang w.heap.size w' (fun u => RGridT u (swpR A_g n_) cs_1) ∧ WL 1 w.heap.size w' Lw_2 (cellN cs_1 7) ((swpR A_g n_).vals).length) := by
  obtain ⟨r1, r3, r5, r7, y9, rfl, h2, h4, h6, h8, h10⟩ := hv_g
  have hs13 := h10; have hs13l := Sl.len h10; obtain ⟨p11, q12, rfl⟩ := Sl.shape h10
  refine enter [(.agg #[(Fl r1), (Fl r3), (Fl r5), (Fl r7), (Iv A_g.x), (Iv A_g.y), (Iv A_g.z), (.slice p11 A_g.vals.length q12)]), (Iv n_), Ud, Ud, Ud, Ud, Ud, Ud, Ud, Ud, Ud, Ud, Ud, Ud, Ud, Ud, Ud, Ud, Ud, Ud, Ud, Ud, Ud, Ud, Ud, Ud, Ud] Try.func20 rfl Try.ntmps20 rfl ?_
  refine wp_seq_k fun K14 hK14 => ?_
  refine wp_region_lit ?_
  refine seqd rfl rfl (does_box (u := (.agg #[(Fl r1), (Fl r3), (Fl r5), (Fl r7), (Iv A_g.x), (Iv A_g.y), (Iv A_g.z), (.slice p11 A_g.vals.length q12)])) (ev rfl)) ?_; rintro _ w19 ⟨b15, rfl, hb16, hB17, E18⟩
  have g20 : w.heap.size ≤ b15 := Nat.le_trans (Below.size (Ext.refl w)) hb16
  change Blk _ _ [(Fl r1), (Fl r3), (Fl r5), (Fl r7), (Iv A_g.x), (Iv A_g.y), (Iv A_g.z), (.slice p11 A_g.vals.length q12)] at hB17
  have X21 := Ext.gr (Ext.refl w) E18
  show wpList _ _ _ _ (fr [_, _, _, _, _, _, _, _, _, _, _, _, _, _, _, _, _, _, _, _, _, _, _, _, _, _, _]) _
  refine seqd rfl rfl (does_alloc z31) ?_; rintro _ w26 ⟨b22, rfl, hb23, hB24, E25⟩
  have n27 : b15 < b22 := Nat.lt_of_lt_of_le (Blk.lt hB17) hb23
  have g28 : w.heap.size ≤ b22 := Nat.le_trans (Below.size X21) hb23
  change Blk _ _ [(Fl 0), (Fl 0), (Fl 0), (Fl 0), (Iv 0), (Iv 0), (Iv 0), (.slice none 0 0)] at hB24
  have X29 := Ext.gr X21 E25
  show wpList _ _ _ _ (fr [_, _, _, _, _, _, _, _, _, _, _, _, _, _, _, _, _, _, _, _, _, _, _, _, _, _, _]) _
  refine q_is rfl rfl (does_assign (u := (Bo false)) (ev rfl)) (by dsimp only [List.set]; try rfl) ?_
  refine wpList_nil (hK14 _ _ ?_)
  refine wp_seq_k fun K30 hK30 => ?_
  refine wp_seq_k fun K31 hK31 => ?_
  obtain ⟨β1, hβ1⟩ : ∃ b : Bool, b = ((!(isGrid A_g)) || (!(inI n_ 0 32))) := ⟨_, rfl⟩
  refine region_text (
    [Fact.pure [] (fun v => v = (.agg #[(Fl r1), (Fl r3), (Fl r5), (Fl r7), (Iv A_g.x), (Iv A_g.y), (Iv A_g.z), (.slice p11 A_g.vals.length q12)])),
    Fact.pure [8] (fun v => v = (Bo (isGrid A_g))),
    Fact.pure [9] (fun v => v = (Bo (!(isGrid A_g)))),
    Fact.pure [10] (fun v => v = (Bo (!(isGrid A_g)))),
    Fact.pure [11] (fun v => (!(isGrid A_g)) = false → v = (Iv n_)),
    Fact.pure [12, 11] (fun v => (!(isGrid A_g)) = false → v = (Bo (inI n_ 0 32))),
    Fact.pure [13, 11] (fun v => (!(isGrid A_g)) = false → v = (Bo (!(inI n_ 0 32)))),
    Fact.pure [11, 14] (fun v => v = (Bo β1))]) (by simp [Fact.pure, Fact.mem]) ?_
  refine RW_d _ rfl (fun v => by dsimp only [List.set]; try rfl) (fun u hu hF => ?_) (fun v32 => ?_)
  · clear hF
    refine doesG_un rfl ?_
    refine (does_loadAgg (cs := [(Fl r1), (Fl r3), (Fl r5), (Fl r7), (Iv A_g.x), (Iv A_g.y), (Iv A_g.z), (.slice p11 A_g.vals.length q12)]) (ev rfl) Try.isAgg31 Try.sizeOf31 (Blk.cells ((hB17.ext E25).ext hu)) rfl).mono ?_; rintro _ _ ⟨rfl, rfl⟩
    exact ⟨rfl, Ext.refl _⟩
  refine RW_d _ rfl (fun v => by dsimp only [List.set]; try rfl) (fun u hu hF => ?_) (fun v33 => ?_)
  · have h8_ : v32 = (.agg #[(Fl r1), (Fl r3), (Fl r5), (Fl r7), (Iv A_g.x), (Iv A_g.y), (Iv A_g.z), (.slice p11 A_g.vals.length q12)]) := hF.1
    clear hF
    refine doesG_un rfl ?_
    obtain rfl := h8_
    refine (does_call (args := #[(.agg #[(Fl r1), (Fl r3), (Fl r5), (Fl r7), (Iv A_g.x), (Iv A_g.y), (Iv A_g.z), (.slice p11 A_g.vals.length q12)])]) cal28 (evs rfl) (c_impl_ValidGrid [(Fl r1), (Fl r3), (Fl r5), (Fl r7), (Iv A_g.x), (Iv A_g.y), (Iv A_g.z), (.slice p11 A_g.vals.length q12)] A_g _ ⟨r1, r3, r5, r7, (.slice p11 A_g.vals.length q12), rfl, h2, h4, h6, h8, (Sl.ext (Sl.ext hs13 RF.mono X29) RF.mono hu)⟩)).mono ?_; rintro v u' ⟨hx, hv⟩
    exact ⟨hv, hx⟩
  refine RW_d _ rfl (fun v => by dsimp only [List.set]; try rfl) (fun u hu hF => ?_) (fun v34 => ?_)
  · have h9_ : v33 = (Bo (isGrid A_g)) := hF.1
    clear hF
    refine doesG_un rfl ?_
    obtain rfl := h9_
    refine (does_not (ev rfl)).mono ?_; rintro _ _ ⟨rfl, rfl⟩
    exact ⟨rfl, Ext.refl _⟩
  refine RW_d _ rfl (fun v => by dsimp only [List.set]; try rfl) (fun u hu hF => ?_) (fun v35 => ?_)
  · have h10_ : v34 = (Bo (!(isGrid A_g))) := hF.1
    clear hF
    refine doesG_un rfl ?_
    obtain rfl := h10_
    refine (does_move (u := (Bo (!(isGrid A_g)))) (ev rfl)).mono ?_; rintro _ _ ⟨rfl, rfl⟩
    exact ⟨rfl, Ext.refl _⟩
  refine RW_d _ rfl (fun v => by dsimp only [List.set]; try rfl) (fun u hu hF => ?_) (fun v36 => ?_)
  · have h11_ : v35 = (Bo (!(isGrid A_g))) := hF.1
    clear hF
    obtain rfl := h11_
    refine doesG_g (b := (!(isGrid A_g))) rfl (yld rfl rfl) (fun hg1 => ?_) (fun hc => ⟨fun hg1 => absurd hg1 hc, Ext.refl _⟩)
    refine (does_move (u := (Iv n_)) (ev rfl)).mono ?_; rintro _ _ ⟨rfl, rfl⟩
    exact ⟨fun _ => rfl, Ext.refl _⟩
  refine RW_d _ rfl (fun v => by dsimp only [List.set]; try rfl) (fun u hu hF => ?_) (fun v37 => ?_)
  · have h12_ : (!(isGrid A_g)) = false → v36 = (Iv n_) := hF.1
    have h11_ : v35 = (Bo (!(isGrid A_g))) := hF.2.1
    clear hF
    obtain rfl := h11_
    refine doesG_g (b := (!(isGrid A_g))) rfl (yld rfl rfl) (fun hg1 => ?_) (fun hc => ⟨fun hg1 => absurd hg1 hc, Ext.refl _⟩)
    obtain rfl := h12_ hg1
    refine (does_call (args := #[(Iv n_), (Iv 0), (Iv 32)]) cal40 (evs rfl) (c_impl_in n_ 0 32 _)).mono ?_; rintro v u' ⟨hx, hv⟩
    exact ⟨fun _ => hv, hx⟩
  refine RW_d _ rfl (fun v => by dsimp only [List.set]; try rfl) (fun u hu hF => ?_) (fun v38 => ?_)
  · have h13_ : (!(isGrid A_g)) = false → v37 = (Bo (inI n_ 0 32)) := hF.1
    have h11_ : v35 = (Bo (!(isGrid A_g))) := hF.2.1
    clear hF
    obtain rfl := h11_
    refine doesG_g (b := (!(isGrid A_g))) rfl (yld rfl rfl) (fun hg1 => ?_) (fun hc => ⟨fun hg1 => absurd hg1 hc, Ext.refl _⟩)
    obtain rfl := h13_ hg1
    refine (does_not (ev rfl)).mono ?_; rintro _ _ ⟨rfl, rfl⟩
    exact ⟨fun _ => rfl, Ext.refl _⟩
  refine RW_d _ rfl (fun v => by dsimp only [List.set]; try rfl) (fun u hu hF => ?_) (fun v39 => ?_)
  · have h11_ : v35 = (Bo (!(isGrid A_g))) := hF.1
    have h14_ : (!(isGrid A_g)) = false → v38 = (Bo (!(inI n_ 0 32))) := hF.2.1
    clear hF
    refine doesG_un rfl ?_
    skip
    obtain rfl := h11_
    refine (does_pick (b := (!(isGrid A_g))) (ev rfl) (ev rfl) (ev rfl)).mono ?_; rintro _ _ ⟨rfl, rfl⟩; refine ⟨?_, Ext.refl _⟩; rw [hβ1]; skip
    cases hbb : (!(isGrid A_g))
    all_goals first | rfl | (have e_ := h14_ hbb; subst e_; rfl) | (simp [hbb] at h14_ ⊢; first | done | rfl | (subst h14_; rfl) | simp_all) | (simp [hbb] at h14_ ⊢; done)
  refine RW_fin ?_; intro w40 E41 hP42
  obtain ⟨⟨⟨⟨⟨⟨⟨⟨-, -⟩, -⟩, -⟩, -⟩, -⟩, -⟩, -⟩, q43⟩ := hP42
  have X44 := Ext.gr X29 E41
  have q43 : v39 = (Bo β1) := q43
  obtain rfl := q43
  show wpList _ _ _ _ (fr [_, _, _, _, _, _, _, _, _, _, _, _, _, _, _, _, _, _, _, _, _, _, _, _, _, _, _]) _
  refine wpList_nil (hK31 _ _ ?_)
  refine wp_cond_split (t := β1) (ev rfl) (fun c45 => ?_) (fun c45 => ?_)
  · have c45' := c45
    (try simp only [hβ1] at c45')
    (try simp only [icmp, Bool.and_eq_true, Bool.or_eq_true, Bool.and_eq_false_iff, Bool.or_eq_false_iff, Bool.not_eq_true', Bool.not_eq_false', decide_eq_true_eq, decide_eq_false_iff_not, beq_iff_eq, bne_iff_ne, beq_eq_false_iff_ne, bne_eq_false_iff_eq] at c45')
    refine wp_seq_k fun K46 hK46 => ?_
    refine wp_region_lit ?_
    refine q_is rfl rfl (does_build (parts' := []) (cells := #[(Fl 0), (Fl 0), (Fl 0), (Fl 0), (Iv 0), (Iv 0), (Iv 0), (.slice none 0 0)]) (evp rfl) (by kernel_rfl)) (by dsimp only [List.set]; try rfl) ?_
    refine seqn rfl rfl (does_store (n := 8) (cs := [(Fl 0), (Fl 0), (Fl 0), (Fl 0), (Iv 0), (Iv 0), (Iv 0), (.slice none 0 0)]) (u := (.agg #[(Fl 0), (Fl 0), (Fl 0), (Fl 0), (Iv 0), (Iv 0), (Iv 0), (.slice none 0 0)])) (ev rfl) (ev rfl) Try.sizeOf31 rfl (hB24.ext E41) (Nat.le_of_ble_eq_true rfl) rfl) ?_; rintro _ w49 ⟨rfl, W47, hB48⟩
    change Blk _ _ [(Fl 0), (Fl 0), (Fl 0), (Fl 0), (Iv 0), (Iv 0), (Iv 0), (.slice none 0 0)] at hB48
    have X50 := Below.wr X44 W47 g28
    refine q_is rfl rfl (does_assign (u := (Bo false)) (ev rfl)) (by dsimp only [List.set]; try rfl) ?_
    refine wpList_nil (hK46 _ _ ?_)
    refine wp_ret ?_
    dsimp only [Exit.then, Exit.inBlock]
    refine ret_val (v := (.tuple #[(.agg #[(Fl 0), (Fl 0), (Fl 0), (Fl 0), (Iv 0), (Iv 0), (Iv 0), (.slice none 0 0)]), (Bo false)])) (res_CT rfl (slot rfl) (run_loadAgg (cs := [(Fl 0), (Fl 0), (Fl 0), (Fl 0), (Iv 0), (Iv 0), (Iv 0), (.slice none 0 0)]) Try.isAgg31 Try.sizeOf31 (Blk.cells hB48) rfl) (slot rfl)) X50 ?_
    try simp only [h2, h4, h6, h8, hβ1] at c45
    have x51 : (swpOk A_g n_) = false := by first | exact swpOk_f (by assumption) | exact swpOk_t (by assumption) | (rw [swpR_f (swpOk_f (by assumption))] <;> rfl) | (rw [swpR_t (k := k) (swpOk_t (by assumption)) (by assumption) (by assumption)] <;> first | rfl | assumption | (simp only [h2, h4, h6, h8, hβ1, c45]; done))
    have x52 : cf .f32 0 = (swpR A_g n_).low.x := by first | exact swpOk_f (by assumption) | exact swpOk_t (by assumption) | (rw [swpR_f (swpOk_f (by assumption))] <;> rfl) | (rw [swpR_t (k := k) (swpOk_t (by assumption)) (by assumption) (by assumption)] <;> first | rfl | assumption | (simp only [h2, h4, h6, h8, hβ1, c45]; done))
    have x53 : cf .f32 0 = (swpR A_g n_).low.y := by first | exact swpOk_f (by assumption) | exact swpOk_t (by assumption) | (rw [swpR_f (swpOk_f (by assumption))] <;> rfl) | (rw [swpR_t (k := k) (swpOk_t (by assumption)) (by assumption) (by assumption)] <;> first | rfl | assumption | (simp only [h2, h4, h6, h8, hβ1, c45]; done))
    have x54 : cf .f32 0 = (swpR A_g n_).low.z := by first | exact swpOk_f (by assumption) | exact swpOk_t (by assumption) | (rw [swpR_f (swpOk_f (by assumption))] <;> rfl) | (rw [swpR_t (k := k) (swpOk_t (by assumption)) (by assumption) (by assumption)] <;> first | rfl | assumption | (simp only [h2, h4, h6, h8, hβ1, c45]; done))
    have x55 : cf .f32 0 = (swpR A_g n_).step := by first | exact swpOk_f (by assumption) | exact swpOk_t (by assumption) | (rw [swpR_f (swpOk_f (by assumption))] <;> rfl) | (rw [swpR_t (k := k) (swpOk_t (by assumption)) (by assumption) (by assumption)] <;> first | rfl | assumption | (simp only [h2, h4, h6, h8, hβ1, c45]; done))
    have x56 : (swpR A_g n_).x = 0 := by first | exact swpOk_f (by assumption) | exact swpOk_t (by assumption) | (rw [swpR_f (swpOk_f (by assumption))] <;> rfl) | (rw [swpR_t (k := k) (swpOk_t (by assumption)) (by assumption) (by assumption)] <;> first | rfl | assumption | (simp only [h2, h4, h6, h8, hβ1, c45]; done))
    have x57 : (swpR A_g n_).y = 0 := by first | exact swpOk_f (by assumption) | exact swpOk_t (by assumption) | (rw [swpR_f (swpOk_f (by assumption))] <;> rfl) | (rw [swpR_t (k := k) (swpOk_t (by assumption)) (by assumption) (by assumption)] <;> first | rfl | assumption | (simp only [h2, h4, h6, h8, hβ1, c45]; done))
    have x58 : (swpR A_g n_).z = 0 := by first | exact swpOk_f (by assumption) | exact swpOk_t (by assumption) | (rw [swpR_f (swpOk_f (by assumption))] <;> rfl) | (rw [swpR_t (k := k) (swpOk_t (by assumption)) (by assumption) (by assumption)] <;> first | rfl | assumption | (simp only [h2, h4, h6, h8, hβ1, c45]; done))
    have x59 : ([]) = ((swpR A_g n_).vals) := by first | exact swpOk_f (by assumption) | exact swpOk_t (by assumption) | (rw [swpR_f (swpOk_f (by assumption))] <;> rfl) | (rw [swpR_t (k := k) (swpOk_t (by assumption)) (by assumption) (by assumption)] <;> first | rfl | assumption | (simp only [h2, h4, h6, h8, hβ1, c45]; done))
    have x60 : ([]) = ((swpR A_g n_).vals) := by first | exact swpOk_f (by assumption) | exact swpOk_t (by assumption) | (rw [swpR_f (swpOk_f (by assumption))] <;> rfl) | (rw [swpR_t (k := k) (swpOk_t (by assumption)) (by assumption) (by assumption)] <;> first | rfl | assumption | (simp only [h2, h4, h6, h8, hβ1, c45]; done))
    exact ⟨[(Fl 0), (Fl 0), (Fl 0), (Fl 0), (Iv 0), (Iv 0), (Iv 0), (.slice none 0 0)], [], (by first | rfl | rw [x51]), fun u hu => ⟨0, 0, 0, 0, (.slice none 0 0), (by first | with_reducible rfl | (show _ = _; simp only [x56, x57, x58]) | rfl), x52, x53, x54, x55, (Hang.castL (Sl.hang_nil _ _ _ _) x59) u hu⟩, (WL.cast (WL.nil _ _ _) (congrArg List.length x60))⟩
  have c45' := c45
  (try simp only [hβ1] at c45')
  (try simp only [icmp, Bool.and_eq_true, Bool.or_eq_true, Bool.and_eq_false_iff, Bool.or_eq_false_iff, Bool.not_eq_true', Bool.not_eq_false', decide_eq_true_eq, decide_eq_false_iff_not, beq_iff_eq, bne_iff_ne, beq_eq_false_iff_ne, bne_eq_false_iff_eq] at c45')
  have hgr := (c45').1
  have hgc := isGrid_cnt hgr
  have hv0 := vol_pos hgr
  have hni := inI_iff.1 (c45').2
  refine wp_skip (hK30 _ _ ?_)
  refine wp_seq_k fun K61 hK61 => ?_
  refine wp_region_lit ?_
  refine q_is rfl rfl (does_loadAgg (cs := [(Fl r1), (Fl r3), (Fl r5), (Fl r7), (Iv A_g.x), (Iv A_g.y), (Iv A_g.z), (.slice p11 A_g.vals.length q12)]) (ev rfl) Try.isAgg31 Try.sizeOf31 (Blk.cells ((hB17.ext E25).ext E41)) rfl) (by dsimp only [List.set]; try rfl) ?_
  refine seqd rfl rfl (does_call (args := #[(.agg #[(Fl r1), (Fl r3), (Fl r5), (Fl r7), (Iv A_g.x), (Iv A_g.y), (Iv A_g.z), (.slice p11 A_g.vals.length q12)])]) cal45 (evs rfl) (c_impl_cloneGrid [(Fl r1), (Fl r3), (Fl r5), (Fl r7), (Iv A_g.x), (Iv A_g.y), (Iv A_g.z), (.slice p11 A_g.vals.length q12)] A_g _ ⟨r1, r3, r5, r7, (.slice p11 A_g.vals.length q12), rfl, h2, h4, h6, h8, (Sl.ext hs13 RF.mono X44)⟩ (by omega))) ?_; rintro _ w63 ⟨E62, ⟨cs65, Lw66, rfl, hh64, hw67⟩⟩
  have X68 := Ext.gr X44 E62
  have n69 : b15 < w40.heap.size := Blk.lt ((hB17.ext E25).ext E41)
  have n70 : b22 < w40.heap.size := Blk.lt (hB24.ext E41)
  obtain ⟨r71, r73, r75, r77, y79, rfl, h72, h74, h76, h78, h80⟩ := hh64.get
  have h80l := Sl.len h80; obtain ⟨p81, q82, rfl⟩ := Sl.shape h80
  have hh83 : Hang w40.heap.size w63 (fun u => Sl RF 1 u (.slice p81 A_g.vals.length q82) A_g.vals) := fun u hu => by obtain ⟨_, _, _, _, _, hq, _, _, _, _, _⟩ := hh64 u hu; cases hq; assumption
  have hw84 : WL 1 w40.heap.size w63 Lw66 (.slice p81 A_g.vals.length q82) A_g.vals.length := hw67
  show wpList _ _ _ _ (fr [_, _, _, _, _, _, _, _, _, _, _, _, _, _, _, _, _, _, _, _, _, _, _, _, _, _, _]) _
  refine seqd rfl rfl (does_alloc z31) ?_; rintro _ w89 ⟨b85, rfl, hb86, hB87, E88⟩
  have n90 : b15 < b85 := Nat.lt_of_lt_of_le (Blk.lt (((hB17.ext E25).ext E41).ext E62)) hb86
  have n91 : b22 < b85 := Nat.lt_of_lt_of_le (Blk.lt ((hB24.ext E41).ext E62)) hb86
  have g92 : w.heap.size ≤ b85 := Nat.le_trans (Below.size X68) hb86
  change Blk _ _ [(Fl 0), (Fl 0), (Fl 0), (Fl 0), (Iv 0), (Iv 0), (Iv 0), (.slice none 0 0)] at hB87
  have X93 := Ext.gr X68 E88
  show wpList _ _ _ _ (fr [_, _, _, _, _, _, _, _, _, _, _, _, _, _, _, _, _, _, _, _, _, _, _, _, _, _, _]) _
  refine seqn rfl rfl (does_store (n := 8) (cs := [(Fl 0), (Fl 0), (Fl 0), (Fl 0), (Iv 0), (Iv 0), (Iv 0), (.slice none 0 0)]) (u := (.agg #[(Fl r71), (Fl r73), (Fl r75), (Fl r77), (Iv A_g.x), (Iv A_g.y), (Iv A_g.z), (.slice p81 A_g.vals.length q82)])) (ev rfl) (ev rfl) Try.sizeOf31 rfl hB87 (Nat.le_of_ble_eq_true rfl) rfl) ?_; rintro _ w96 ⟨rfl, W94, hB95⟩
  change Blk _ _ [(Fl r71), (Fl r73), (Fl r75), (Fl r77), (Iv A_g.x), (Iv A_g.y), (Iv A_g.z), (.slice p81 A_g.vals.length q82)] at hB95
  have X97 := Below.wr X93 W94 g92
  refine wpList_nil (hK61 _ _ ?_)
  refine wp_seq_k fun K98 hK98 => ?_
  refine wp_seq_k fun K99 hK99 => ?_
  refine wp_region_lit ?_
  refine q_is rfl rfl (does_move (u := (Iv n_)) (ev rfl)) (by dsimp only [List.set]; try rfl) ?_
  refine q_is rfl rfl (does_move (u := (Iv 0)) (ev rfl)) (by dsimp only [List.set]; try rfl) ?_
  refine wpList_nil (hK99 _ _ ?_)
  refine wp_block ?_
  obtain ⟨gr100, hp101, hL102, hR103, hcap104, hB105⟩ := WL.row (hw84.same (((Same.refl _ _).ext E88).wr W94 (.inr (Nat.le_trans (Nat.le_refl _) hb86)))) (hh83 _ (((Same.refl _ _).ext E88).wr W94 (.inr (Nat.le_trans (Nat.le_refl _) hb86)))) (by omega)
  have n106 : b15 ≠ gr100 := Nat.ne_of_lt (Nat.lt_of_lt_of_le n69 hB105)
  have n107 : b22 ≠ gr100 := Nat.ne_of_lt (Nat.lt_of_lt_of_le n70 hB105)
  have n108 : gr100 ≠ b85 := Nat.ne_of_lt (Nat.lt_of_lt_of_le (hw84.1 gr100 (by rw [hL102]; simp)).2 (Nat.le_trans (Nat.le_refl _) hb86))
  have g109 : w.heap.size ≤ gr100 := Nat.le_trans (Nat.le_trans (Nat.le_trans (Below.size E18) (Below.size E25)) (Below.size E41)) hB105
  subst hp101; subst hL102
  refine loop_ghost (σ := Nat) (fun k a w' => ∃ u110 : Nat → Value, a = fr [(.agg #[(Fl r1), (Fl r3), (Fl r5), (Fl r7), (Iv A_g.x), (Iv A_g.y), (Iv A_g.z), (.slice p11 A_g.vals.length q12)]), (Iv n_), (Pt b15 0), Ud, (Pt b22 0), (Bo false), (Pt b85 0), (u110 7), v32, v33, v34, v35, v36, v37, v38, (Bo β1), Ud, (.agg #[(Fl r1), (Fl r3), (Fl r5), (Fl r7), (Iv A_g.x), (Iv A_g.y), (Iv A_g.z), (.slice p11 A_g.vals.length q12)]), (.agg #[(Fl r71), (Fl r73), (Fl r75), (Fl r77), (Iv A_g.x), (Iv A_g.y), (Iv A_g.z), (.slice (some ⟨gr100, 0, none⟩) A_g.vals.length q82)]), (Iv n_), (Iv (k : Int)), (u110 21), (u110 22), (u110 23), (u110 24), (u110 25), Ud] ∧ KpL [gr100] w96 w' ∧ RowF w' gr100 (swN A_g k) ∧ ((k : Int) ≤ n_)) (fun k => n_.toNat - k) 0 ?_ ?_
  · refine ⟨fun t => (([(.agg #[(Fl r1), (Fl r3), (Fl r5), (Fl r7), (Iv A_g.x), (Iv A_g.y), (Iv A_g.z), (.slice p11 A_g.vals.length q12)]), (Iv n_), (Pt b15 0), Ud, (Pt b22 0), (Bo false), (Pt b85 0), Ud, v32, v33, v34, v35, v36, v37, v38, (Bo β1), Ud, (.agg #[(Fl r1), (Fl r3), (Fl r5), (Fl r7), (Iv A_g.x), (Iv A_g.y), (Iv A_g.z), (.slice p11 A_g.vals.length q12)]), (.agg #[(Fl r71), (Fl r73), (Fl r75), (Fl r77), (Iv A_g.x), (Iv A_g.y), (Iv A_g.z), (.slice (some ⟨gr100, 0, none⟩) A_g.vals.length q82)]), (Iv n_), (Iv 0), Ud, Ud, Ud, Ud, Ud, Ud] : List Value)[t]?).getD undef, rfl, KpL.refl _ _, (RowF.cast hR103 (by rfl)), ?_⟩
    exact hni.1
  · rintro k a w111 ⟨u110, rfl, E112, hRw, hk⟩
    have X114 := Below.kl X97 E112 (allS g109 all0) (Nat.le_refl _)
    have hR115 := hRw; clear hRw
    have hsl := swN_len A_g k
    have hgv := isGrid_vals hgr hsl
    refine wp_seq_k fun K116 hK116 => ?_
    refine wp_region_lit ?_
    refine q_is rfl rfl (does_icmp (p := (k : Int)) (q := n_) (.inr (.inr (.inl rfl))) (ev rfl) (ev rfl)) (by dsimp only [List.set]; try rfl) ?_
    refine wpList_nil (hK116 _ _ ?_)
    refine wp_seq_k fun K117 hK117 => ?_
    refine wp_cond_split (t := icmp .lss (k : Int) n_) (ev rfl) (fun c118 => ?_) (fun c118 => ?_)
    · have c118' := c118
      (try simp only [hβ1] at c118')
      (try simp only [icmp, Bool.and_eq_true, Bool.or_eq_true, Bool.and_eq_false_iff, Bool.or_eq_false_iff, Bool.not_eq_true', Bool.not_eq_false', decide_eq_true_eq, decide_eq_false_iff_not, beq_iff_eq, bne_iff_ne, beq_eq_false_iff_ne, bne_eq_false_iff_eq] at c118')
      refine wp_skip (hK117 _ _ ?_)
      refine wp_seq_k fun K119 hK119 => ?_
      refine wp_block ?_
      refine wp_seq_k fun K120 hK120 => ?_
      refine wp_region_lit ?_
      refine q_is rfl rfl (does_move (u := (Iv (k : Int))) (ev rfl)) (by dsimp only [List.set]; try rfl) ?_
      refine q_is rfl rfl (does_assign (u := (Iv (k : Int))) (ev rfl)) (by dsimp only [List.set]; try rfl) ?_
      refine wpList_nil (hK120 _ _ ?_)
      refine wp_region_lit ?_
      refine q_is rfl rfl (does_move (u := (Iv (k : Int))) (ev rfl)) (by dsimp only [List.set]; try rfl) ?_
      refine seqd rfl rfl (does_callK (args := #[(Pt b85 0), (Iv (k : Int))]) cal46 (evs rfl) (c_impl_Grid_sweep b85 0 gr100 q82 [(Fl r71), (Fl r73), (Fl r75), (Fl r77), (Iv A_g.x), (Iv A_g.y), (Iv A_g.z), (.slice (some ⟨gr100, 0, none⟩) A_g.vals.length q82)] (GridT.mk A_g.low A_g.step A_g.x A_g.y A_g.z (swN A_g k)) (k : Int) _ (Blk.cells (hB95.kl E112 (ninS (Ne.symm n108) nin0))) ⟨r71, r73, r75, r77, (.slice (some ⟨gr100, 0, none⟩) A_g.vals.length q82), rfl, h72, h74, h76, h78, (RowF.sl hR115 (by first | rfl | omega | (simp only [sweepTo_len, rowS_len, swN_len, List.length_set]; done) | (simp only [sweepTo_len, rowS_len, swN_len, List.length_set]; omega)) hcap104 (by omega))⟩ (by have hl_ : (swN A_g k).length = A_g.vals.length := (by first | rfl | omega | (simp only [sweepTo_len, rowS_len, swN_len, List.length_set]; done) | (simp only [sweepTo_len, rowS_len, swN_len, List.length_set]; omega)); show _ = some (Value.slice _ (swN A_g k).length _); rw [hl_]; rfl) hR115 (by have hl_ : (swN A_g k).length = A_g.vals.length := (by first | rfl | omega | (simp only [sweepTo_len, rowS_len, swN_len, List.length_set]; done) | (simp only [sweepTo_len, rowS_len, swN_len, List.length_set]; omega)); show (swN A_g k).length ≤ _; rw [hl_]; exact hcap104) (Ne.symm n108) (by exact hgv) (by omega))) ?_; rintro _ w121 ⟨K122, rfl, hR123⟩
      have X124 := Below.kl X114 K122 (allS g109 all0) (Nat.le_refl _)
      show wpList _ _ _ _ (fr [_, _, _, _, _, _, _, _, _, _, _, _, _, _, _, _, _, _, _, _, _, _, _, _, _, _, _]) _
      refine wpList_nil (hK119 _ _ ?_)
      refine wp_region_lit ?_
      refine q_is rfl rfl (does_iarith (p := (k : Int)) (q := 1) (r := (k : Int) + 1) (ev rfl) (ev rfl) (.inl ⟨rfl, (in_i64 (by omega) (by omega)).symm⟩)) (by dsimp only [List.set]; try rfl) ?_
      refine q_is rfl rfl (does_move (u := (Iv ((k : Int) + 1))) (ev rfl)) (by dsimp only [List.set]; try rfl) ?_
      refine wpList_nil ?_
      have hR125 := RowF.cast (ys := ((fun (k : Nat) => swN A_g k) (k + 1))) hR123 (by (try dsimp only); rfl)
      refine ⟨k + 1, ⟨fun t => (([(.agg #[(Fl r1), (Fl r3), (Fl r5), (Fl r7), (Iv A_g.x), (Iv A_g.y), (Iv A_g.z), (.slice p11 A_g.vals.length q12)]), (Iv n_), (Pt b15 0), Ud, (Pt b22 0), (Bo false), (Pt b85 0), (Iv (k : Int)), v32, v33, v34, v35, v36, v37, v38, (Bo β1), Ud, (.agg #[(Fl r1), (Fl r3), (Fl r5), (Fl r7), (Iv A_g.x), (Iv A_g.y), (Iv A_g.z), (.slice p11 A_g.vals.length q12)]), (.agg #[(Fl r71), (Fl r73), (Fl r75), (Fl r77), (Iv A_g.x), (Iv A_g.y), (Iv A_g.z), (.slice (some ⟨gr100, 0, none⟩) A_g.vals.length q82)]), (Iv n_), (Iv ((k : Int) + 1)), (Bo (icmp .lss (k : Int) n_)), (Iv (k : Int)), (Iv (k : Int)), (Bo ((sweepG (GridT.mk A_g.low A_g.step A_g.x A_g.y A_g.z (swN A_g k)) (icmp .eql ((k : Int) % 2) 1)).2)), (Iv ((k : Int) + 1)), Ud] : List Value)[t]?).getD undef, ?_, (KpL.more E112 K122 (allS (.inl (by simp)) all0)), hR125, ?_⟩, ?_⟩
      · first | rfl | (simp only [Nat.cast_add, Nat.cast_one, Int.natCast_add, Int.natCast_one]; rfl)
      · omega
      · omega
    have c118' := c118
    (try simp only [hβ1] at c118')
    (try simp only [icmp, Bool.and_eq_true, Bool.or_eq_true, Bool.and_eq_false_iff, Bool.or_eq_false_iff, Bool.not_eq_true', Bool.not_eq_false', decide_eq_true_eq, decide_eq_false_iff_not, beq_iff_eq, bne_iff_ne, beq_eq_false_iff_ne, bne_eq_false_iff_eq] at c118')
    refine wp_exit ?_
    refine hK98 _ _ ?_
    refine wp_seq_k fun K126 hK126 => ?_
    refine wp_region_lit ?_
    refine q_is rfl rfl (does_loadAgg (cs := [(Fl r71), (Fl r73), (Fl r75), (Fl r77), (Iv A_g.x), (Iv A_g.y), (Iv A_g.z), (.slice (some ⟨gr100, 0, none⟩) A_g.vals.length q82)]) (ev rfl) Try.isAgg31 Try.sizeOf31 (Blk.cells (hB95.kl E112 (ninS (Ne.symm n108) nin0))) rfl) (by dsimp only [List.set]; try rfl) ?_
    refine seqn rfl rfl (does_store (n := 8) (cs := [(Fl 0), (Fl 0), (Fl 0), (Fl 0), (Iv 0), (Iv 0), (Iv 0), (.slice none 0 0)]) (u := (.agg #[(Fl r71), (Fl r73), (Fl r75), (Fl r77), (Iv A_g.x), (Iv A_g.y), (Iv A_g.z), (.slice (some ⟨gr100, 0, none⟩) A_g.vals.length q82)])) (ev rfl) (ev rfl) Try.sizeOf31 rfl (((((hB24.ext E41).ext E62).ext E88).wr W94 (Nat.ne_of_lt n91)).kl E112 (ninS n107 nin0)) (Nat.le_of_ble_eq_true rfl) rfl) ?_; rintro _ w129 ⟨rfl, W127, hB128⟩
    change Blk _ _ [(Fl r71), (Fl r73), (Fl r75), (Fl r77), (Iv A_g.x), (Iv A_g.y), (Iv A_g.z), (.slice (some ⟨gr100, 0, none⟩) A_g.vals.length q82)] at hB128
    have X130 := Below.wr X114 W127 g28
    refine q_is rfl rfl (does_assign (u := (Bo true)) (ev rfl)) (by dsimp only [List.set]; try rfl) ?_
    refine wpList_nil (hK126 _ _ ?_)
    refine wp_ret ?_
    refine ret_val (v := (.tuple #[(.agg #[(Fl r71), (Fl r73), (Fl r75), (Fl r77), (Iv A_g.x), (Iv A_g.y), (Iv A_g.z), (.slice (some ⟨gr100, 0, none⟩) A_g.vals.length q82)]), (Bo true)])) (res_CT rfl (slot rfl) (run_loadAgg (cs := [(Fl r71), (Fl r73), (Fl r75), (Fl r77), (Iv A_g.x), (Iv A_g.y), (Iv A_g.z), (.slice (some ⟨gr100, 0, none⟩) A_g.vals.length q82)]) Try.isAgg31 Try.sizeOf31 (Blk.cells hB128) rfl) (slot rfl)) X130 ?_
    try simp only [h2, h4, h6, h8, hβ1, h72, h74, h76, h78] at c45 c118
    have x131 : (swpOk A_g n_) = true := by first | exact swpOk_f (by assumption) | exact swpOk_t (by assumption) | (rw [swpR_f (swpOk_f (by assumption))] <;> rfl) | (rw [swpR_t (k := k) (swpOk_t (by assumption)) (by assumption) (by assumption)] <;> first | rfl | assumption | (simp only [h2, h4, h6, h8, hβ1, h72, h74, h76, h78, c45, c118]; done))
    have x132 : cf .f32 r71 = (swpR A_g n_).low.x := by first | exact swpOk_f (by assumption) | exact swpOk_t (by assumption) | (rw [swpR_f (swpOk_f (by assumption))] <;> rfl) | (rw [swpR_t (k := k) (swpOk_t (by assumption)) (by assumption) (by assumption)] <;> first | rfl | assumption | (simp only [h2, h4, h6, h8, hβ1, h72, h74, h76, h78, c45, c118]; done))
    have x133 : cf .f32 r73 = (swpR A_g n_).low.y := by first | exact swpOk_f (by assumption) | exact swpOk_t (by assumption) | (rw [swpR_f (swpOk_f (by assumption))] <;> rfl) | (rw [swpR_t (k := k) (swpOk_t (by assumption)) (by assumption) (by assumption)] <;> first | rfl | assumption | (simp only [h2, h4, h6, h8, hβ1, h72, h74, h76, h78, c45, c118]; done))
    have x134 : cf .f32 r75 = (swpR A_g n_).low.z := by first | exact swpOk_f (by assumption) | exact swpOk_t (by assumption) | (rw [swpR_f (swpOk_f (by assumption))] <;> rfl) | (rw [swpR_t (k := k) (swpOk_t (by assumption)) (by assumption) (by assumption)] <;> first | rfl | assumption | (simp only [h2, h4, h6, h8, hβ1, h72, h74, h76, h78, c45, c118]; done))
    have x135 : cf .f32 r77 = (swpR A_g n_).step := by first | exact swpOk_f (by assumption) | exact swpOk_t (by assumption) | (rw [swpR_f (swpOk_f (by assumption))] <;> rfl) | (rw [swpR_t (k := k) (swpOk_t (by assumption)) (by assumption) (by assumption)] <;> first | rfl | assumption | (simp only [h2, h4, h6, h8, hβ1, h72, h74, h76, h78, c45, c118]; done))
    have x136 : (swpR A_g n_).x = A_g.x := by first | exact swpOk_f (by assumption) | exact swpOk_t (by assumption) | (rw [swpR_f (swpOk_f (by assumption))] <;> rfl) | (rw [swpR_t (k := k) (swpOk_t (by assumption)) (by assumption) (by assumption)] <;> first | rfl | assumption | (simp only [h2, h4, h6, h8, hβ1, h72, h74, h76, h78, c45, c118]; done))
    have x137 : (swpR A_g n_).y = A_g.y := by first | exact swpOk_f (by assumption) | exact swpOk_t (by assumption) | (rw [swpR_f (swpOk_f (by assumption))] <;> rfl) | (rw [swpR_t (k := k) (swpOk_t (by assumption)) (by assumption) (by assumption)] <;> first | rfl | assumption | (simp only [h2, h4, h6, h8, hβ1, h72, h74, h76, h78, c45, c118]; done))
    have x138 : (swpR A_g n_).z = A_g.z := by first | exact swpOk_f (by assumption) | exact swpOk_t (by assumption) | (rw [swpR_f (swpOk_f (by assumption))] <;> rfl) | (rw [swpR_t (k := k) (swpOk_t (by assumption)) (by assumption) (by assumption)] <;> first | rfl | assumption | (simp only [h2, h4, h6, h8, hβ1, h72, h74, h76, h78, c45, c118]; done))
    have x139 : (swN A_g k) = ((swpR A_g n_).vals) := by first | exact swpOk_f (by assumption) | exact swpOk_t (by assumption) | (rw [swpR_f (swpOk_f (by assumption))] <;> rfl) | (rw [swpR_t (k := k) (swpOk_t (by assumption)) (by assumption) (by assumption)] <;> first | rfl | assumption | (simp only [h2, h4, h6, h8, hβ1, h72, h74, h76, h78, c45, c118]; done))
    have x140 : (swN A_g k) = ((swpR A_g n_).vals) := by first | exact swpOk_f (by assumption) | exact swpOk_t (by assumption) | (rw [swpR_f (swpOk_f (by assumption))] <;> rfl) | (rw [swpR_t (k := k) (swpOk_t (by assumption)) (by assumption) (by assumption)] <;> first | rfl | assumption | (simp only [h2, h4, h6, h8, hβ1, h72, h74, h76, h78, c45, c118]; done))
    exact ⟨[(Fl r71), (Fl r73), (Fl r75), (Fl r77), (Iv A_g.x), (Iv A_g.y), (Iv A_g.z), (.slice (some ⟨gr100, 0, none⟩) A_g.vals.length q82)], [gr100], (by first | rfl | rw [x131]), fun u hu => ⟨r71, r73, r75, r77, (.slice (some ⟨gr100, 0, none⟩) A_g.vals.length q82), (by first | with_reducible rfl | (show _ = _; simp only [x136, x137, x138]) | rfl), x132, x133, x134, x135, (Hang.castL (RowF.hang (hR115.wr W127 (Ne.symm n107)) (by first | rfl | omega | (simp only [sweepTo_len, rowS_len, swN_len, List.length_set]; done) | (simp only [sweepTo_len, rowS_len, swN_len, List.length_set]; omega)) g109 hcap104 (by omega)) x139) u hu⟩, (WL.cast (WL.cast (RowF.wl (hR115.wr W127 (Ne.symm n107)) (by first | rfl | omega | (simp only [sweepTo_len, rowS_len, swN_len, List.length_set]; done) | (simp only [sweepTo_len, rowS_len, swN_len, List.length_set]; omega)) g109 hcap104) (by first | rfl | (symm; first | rfl | omega | (simp only [sweepTo_len, rowS_len, swN_len, List.length_set]; done) | (simp only [sweepTo_len, rowS_len, swN_len, List.length_set]; omega)) | omega | (simp only [sweepTo_len, rowS_len, swN_len, List.length_set]; done) | (simp only [sweepTo_len, rowS_len, swN_len, List.length_set]; omega))) (congrArg List.length x140))⟩

/- laws.FnExactSweepGrid -/
theorem c_laws_FnExactSweepGrid (g : List Value) (A_g : GridT) (n_ : Int) (w : World) (hv_g : RGridT w A_g g) : Gives Try.prog 5 #[(.agg g.toArray), (Iv n_)] w (fun v w' => v = (Bo true)) := by
  obtain ⟨r1, r3, r5, r7, y9, rfl, h2, h4, h6, h8, h10⟩ := hv_g
  have hs13 := h10; have hs13l := Sl.len h10; obtain ⟨p11, q12, rfl⟩ := Sl.shape h10
  have hgl := swpR_len A_g n_
  refine enter [(.agg #[(Fl r1), (Fl r3), (Fl r5), (Fl r7), (Iv A_g.x), (Iv A_g.y), (Iv A_g.z), (.slice p11 A_g.vals.length q12)]), (Iv n_), Ud, Ud, Ud, Ud, Ud, Ud, Ud, Ud, Ud, Ud, Ud, Ud, Ud, Ud, Ud, Ud, Ud, Ud, Ud, Ud, Ud, Ud, Ud, Ud, Ud, Ud, Ud, Ud, Ud, Ud, Ud, Ud, Ud, Ud, Ud, Ud, Ud, Ud, Ud, Ud, Ud, Ud, Ud, Ud, Ud, Ud, Ud, Ud, Ud, Ud, Ud, Ud, Ud, Ud, Ud, Ud, Ud, Ud, Ud, Ud, Ud, Ud, Ud, Ud, Ud, Ud, Ud, Ud, Ud, Ud, Ud, Ud, Ud, Ud, Ud, Ud, Ud, Ud, Ud, Ud, Ud, Ud, Ud, Ud, Ud, Ud, Ud, Ud, Ud, Ud, Ud, Ud, Ud, Ud, Ud, Ud, Ud, Ud, Ud] Try.func5 rfl Try.ntmps5 rfl ?_
  refine wp_seq_k fun K14 hK14 => ?_
  refine wp_region_lit ?_
  refine seqd rfl rfl (does_box (u := (.agg #[(Fl r1), (Fl r3), (Fl r5), (Fl r7), (Iv A_g.x), (Iv A_g.y), (Iv A_g.z), (.slice p11 A_g.vals.length q12)])) (ev rfl)) ?_; rintro _ w19 ⟨b15, rfl, hb16, hB17, E18⟩
  have g20 : w.heap.size ≤ b15 := Nat.le_trans (Below.size (Ext.refl w)) hb16
  change Blk _ _ [(Fl r1), (Fl r3), (Fl r5), (Fl r7), (Iv A_g.x), (Iv A_g.y), (Iv A_g.z), (.slice p11 A_g.vals.length q12)] at hB17
  have X21 := Ext.gr (Ext.refl w) E18
  show wpList _ _ _ _ (fr [_, _, _, _, _, _, _, _, _, _, _, _, _, _, _, _, _, _, _, _, _, _, _, _, _, _, _, _, _, _, _, _, _, _, _, _, _, _, _, _, _, _, _, _, _, _, _, _, _, _, _, _, _, _, _, _, _, _, _, _, _, _, _, _, _, _, _, _, _, _, _, _, _, _, _, _, _, _, _, _, _, _, _, _, _, _, _, _, _, _, _, _, _, _, _, _, _, _, _, _, _]) _
  refine q_is rfl rfl (does_assign (u := (Bo false)) (ev rfl)) (by dsimp only [List.set]; try rfl) ?_
  refine wpList_nil (hK14 _ _ ?_)
  refine wp_seq_k fun K22 hK22 => ?_
  refine wp_region_lit ?_
  refine q_is rfl rfl (does_assign (u := (Iv 1048576)) (ev rfl)) (by dsimp only [List.set]; try rfl) ?_
  refine wpList_nil (hK22 _ _ ?_)
  refine wp_seq_k fun K23 hK23 => ?_
  refine wp_region_lit ?_
  refine q_is rfl rfl (does_loadAgg (cs := [(Fl r1), (Fl r3), (Fl r5), (Fl r7), (Iv A_g.x), (Iv A_g.y), (Iv A_g.z), (.slice p11 A_g.vals.length q12)]) (ev rfl) Try.isAgg27 Try.sizeOf27 (Blk.cells hB17) rfl) (by dsimp only [List.set]; try rfl) ?_
  refine q_is rfl rfl (does_move (u := (Iv 1048576)) (ev rfl)) (by dsimp only [List.set]; try rfl) ?_
  refine seqd rfl rfl (does_call (args := #[(.agg #[(Fl r1), (Fl r3), (Fl r5), (Fl r7), (Iv A_g.x), (Iv A_g.y), (Iv A_g.z), (.slice p11 A_g.vals.length q12)]), (Iv 1048576)]) cal7 (evs rfl) (c_laws_szGrid [(Fl r1), (Fl r3), (Fl r5), (Fl r7), (Iv A_g.x), (Iv A_g.y), (Iv A_g.z), (.slice p11 A_g.vals.length q12)] A_g 1048576 _ ⟨r1, r3, r5, r7, (.slice p11 A_g.vals.length q12), rfl, h2, h4, h6, h8, (Sl.ext hs13 RF.mono X21)⟩ (by omega) (by omega))) ?_; rintro _ w25 ⟨E24, ⟨i26, rfl, h27⟩⟩
  have X28 := Ext.gr X21 E24
  show wpList _ _ _ _ (fr [_, _, _, _, _, _, _, _, _, _, _, _, _, _, _, _, _, _, _, _, _, _, _, _, _, _, _, _, _, _, _, _, _, _, _, _, _, _, _, _, _, _, _, _, _, _, _, _, _, _, _, _, _, _, _, _, _, _, _, _, _, _, _, _, _, _, _, _, _, _, _, _, _, _, _, _, _, _, _, _, _, _, _, _, _, _, _, _, _, _, _, _, _, _, _, _, _, _, _, _, _]) _
  refine q_is rfl rfl (does_assign (u := (Iv i26)) (ev rfl)) (by dsimp only [List.set]; try rfl) ?_
  refine wpList_nil (hK23 _ _ ?_)
  refine wp_seq_k fun K29 hK29 => ?_
  refine wp_seq_k fun K30 hK30 => ?_
  refine wp_region_lit ?_
  refine q_is rfl rfl (does_move (u := (Iv i26)) (ev rfl)) (by dsimp only [List.set]; try rfl) ?_
  refine q_is rfl rfl (does_icmp (p := i26) (q := 0) (.inr (.inr (.inl rfl))) (ev rfl) (ev rfl)) (by dsimp only [List.set]; try rfl) ?_
  refine wpList_nil (hK30 _ _ ?_)
  refine wp_cond_split (t := icmp .lss i26 0) (ev rfl) (fun c31 => ?_) (fun c31 => ?_)
  · have c31' := c31
    (try simp only [sameG_self, bne_self_eq_false] at c31')
    (try simp only [icmp, Bool.and_eq_true, Bool.or_eq_true, Bool.and_eq_false_iff, Bool.or_eq_false_iff, Bool.not_eq_true', Bool.not_eq_false', decide_eq_true_eq, decide_eq_false_iff_not, beq_iff_eq, bne_iff_ne, beq_eq_false_iff_ne, bne_eq_false_iff_eq] at c31')
    refine wp_seq_k fun K32 hK32 => ?_
    refine wp_region_lit ?_
    refine q_is rfl rfl (does_assign (u := (Bo true)) (ev rfl)) (by dsimp only [List.set]; try rfl) ?_
    refine wpList_nil (hK32 _ _ ?_)
    refine wp_ret ?_
    dsimp only [Exit.then, Exit.inBlock]
    refine ret_val (v := (Bo true)) (res_T rfl (slot rfl)) X28 ?_
    try simp only [h2, h4, h6, h8, sameG_self, bne_self_eq_false] at c31
    exact rfl
  have c31' := c31
  (try simp only [sameG_self, bne_self_eq_false] at c31')
  (try simp only [icmp, Bool.and_eq_true, Bool.or_eq_true, Bool.and_eq_false_iff, Bool.or_eq_false_iff, Bool.not_eq_true', Bool.not_eq_false', decide_eq_true_eq, decide_eq_false_iff_not, beq_iff_eq, bne_iff_ne, beq_eq_false_iff_ne, bne_eq_false_iff_eq] at c31')
  refine wp_skip (hK29 _ _ ?_)
  refine wp_seq_k fun K33 hK33 => ?_
  refine wp_region_lit ?_
  refine q_is rfl rfl (does_loadAgg (cs := [(Fl r1), (Fl r3), (Fl r5), (Fl r7), (Iv A_g.x), (Iv A_g.y), (Iv A_g.z), (.slice p11 A_g.vals.length q12)]) (ev rfl) Try.isAgg27 Try.sizeOf27 (Blk.cells (hB17.ext E24)) rfl) (by dsimp only [List.set]; try rfl) ?_
  refine seqd rfl rfl (does_call (args := #[(.agg #[(Fl r1), (Fl r3), (Fl r5), (Fl r7), (Iv A_g.x), (Iv A_g.y), (Iv A_g.z), (.slice p11 A_g.vals.length q12)])]) cal9 (evs rfl) (c_laws_toGrid [(Fl r1), (Fl r3), (Fl r5), (Fl r7), (Iv A_g.x), (Iv A_g.y), (Iv A_g.z), (.slice p11 A_g.vals.length q12)] A_g _ ⟨r1, r3, r5, r7, (.slice p11 A_g.vals.length q12), rfl, h2, h4, h6, h8, (Sl.ext hs13 RF.mono X28)⟩ (by omega))) ?_; rintro _ w35 ⟨E34, ⟨cs37, Lw38, rfl, hh36, hw39⟩⟩
  have X40 := Ext.gr X28 E34
  have n41 : b15 < w25.heap.size := Blk.lt (hB17.ext E24)
  obtain ⟨r42, r44, r46, r48, y50, rfl, h43, h45, h47, h49, h51⟩ := hh36.get
  have h51l := Sl.len h51; obtain ⟨p52, q53, rfl⟩ := Sl.shape h51
  have hh54 : Hang w25.heap.size w35 (fun u => Sl RF 1 u (.slice p52 A_g.vals.length q53) A_g.vals) := fun u hu => by obtain ⟨_, _, _, _, _, hq, _, _, _, _, _⟩ := hh36 u hu; cases hq; assumption
  have hw55 : WL 1 w25.heap.size w35 Lw38 (.slice p52 A_g.vals.length q53) A_g.vals.length := hw39
  show wpList _ _ _ _ (fr [_, _, _, _, _, _, _, _, _, _, _, _, _, _, _, _, _, _, _, _, _, _, _, _, _, _, _, _, _, _, _, _, _, _, _, _, _, _, _, _, _, _, _, _, _, _, _, _, _, _, _, _, _, _, _, _, _, _, _, _, _, _, _, _, _, _, _, _, _, _, _, _, _, _, _, _, _, _, _, _, _, _, _, _, _, _, _, _, _, _, _, _, _, _, _, _, _, _, _, _, _]) _
  refine q_is rfl rfl (does_move (u := (Iv n_)) (ev rfl)) (by dsimp only [List.set]; try rfl) ?_
  refine seqd rfl rfl (does_call (args := #[(.agg #[(Fl r42), (Fl r44), (Fl r46), (Fl r48), (Iv A_g.x), (Iv A_g.y), (Iv A_g.z), (.slice p52 A_g.vals.length q53)]), (Iv n_)]) cal19 (evs rfl) (c_spec_SweepGrid [(Fl r42), (Fl r44), (Fl r46), (Fl r48), (Iv A_g.x), (Iv A_g.y), (Iv A_g.z), (.slice p52 A_g.vals.length q53)] A_g n_ _ ⟨r42, r44, r46, r48, (.slice p52 A_g.vals.length q53), rfl, h43, h45, h47, h49, hh54.get⟩)) ?_; rintro _ w57 ⟨E56, ⟨cs59, rfl, hh58⟩⟩
  have X60 := Ext.gr X40 E56
  have n61 : b15 < w35.heap.size := Blk.lt ((hB17.ext E24).ext E34)
  obtain ⟨r62, r64, r66, r68, y70, rfl, h63, h65, h67, h69, h71⟩ := hh58.get
  have h71l := Sl.len h71; obtain ⟨p72, q73, rfl⟩ := Sl.shape h71
  have hh74 : Hang w35.heap.size w57 (fun u => Sl RF 1 u (.slice p72 (((swpR A_g n_).vals).length) q73) ((swpR A_g n_).vals)) := fun u hu => by obtain ⟨_, _, _, _, _, hq, _, _, _, _, _⟩ := hh58 u hu; cases hq; assumption
  show wpList _ _ _ _ (fr [_, _, _, _, _, _, _, _, _, _, _, _, _, _, _, _, _, _, _, _, _, _, _, _, _, _, _, _, _, _, _, _, _, _, _, _, _, _, _, _, _, _, _, _, _, _, _, _, _, _, _, _, _, _, _, _, _, _, _, _, _, _, _, _, _, _, _, _, _, _, _, _, _, _, _, _, _, _, _, _, _, _, _, _, _, _, _, _, _, _, _, _, _, _, _, _, _, _, _, _, _]) _
  refine q_is rfl rfl (does_move (u := (.tuple #[(.agg #[(Fl r62), (Fl r64), (Fl r66), (Fl r68), (Iv ((swpR A_g n_).x)), (Iv ((swpR A_g n_).y)), (Iv ((swpR A_g n_).z)), (.slice p72 (((swpR A_g n_).vals).length) q73)]), (Bo (swpOk A_g n_))])) (ev rfl)) (by dsimp only [List.set]; try rfl) ?_
  refine q_is rfl rfl (does_extract (vs := #[(.agg #[(Fl r62), (Fl r64), (Fl r66), (Fl r68), (Iv ((swpR A_g n_).x)), (Iv ((swpR A_g n_).y)), (Iv ((swpR A_g n_).z)), (.slice p72 (((swpR A_g n_).vals).length) q73)]), (Bo (swpOk A_g n_))]) (u := (.agg #[(Fl r62), (Fl r64), (Fl r66), (Fl r68), (Iv ((swpR A_g n_).x)), (Iv ((swpR A_g n_).y)), (Iv ((swpR A_g n_).z)), (.slice p72 (((swpR A_g n_).vals).length) q73)])) (ev rfl) rfl) (by dsimp only [List.set]; try rfl) ?_
  refine q_is rfl rfl (does_extract (vs := #[(.agg #[(Fl r62), (Fl r64), (Fl r66), (Fl r68), (Iv ((swpR A_g n_).x)), (Iv ((swpR A_g n_).y)), (Iv ((swpR A_g n_).z)), (.slice p72 (((swpR A_g n_).vals).length) q73)]), (Bo (swpOk A_g n_))]) (u := (Bo (swpOk A_g n_))) (ev rfl) rfl) (by dsimp only [List.set]; try rfl) ?_
  refine seqd rfl rfl (does_alloc z31) ?_; rintro _ w79 ⟨b75, rfl, hb76, hB77, E78⟩
  have n80 : b15 < b75 := Nat.lt_of_lt_of_le (Blk.lt (((hB17.ext E24).ext E34).ext E56)) hb76
  have g81 : w.heap.size ≤ b75 := Nat.le_trans (Below.size X60) hb76
  change Blk _ _ [(Fl 0), (Fl 0), (Fl 0), (Fl 0), (Iv 0), (Iv 0), (Iv 0), (.slice none 0 0)] at hB77
  have X82 := Ext.gr X60 E78
  show wpList _ _ _ _ (fr [_, _, _, _, _, _, _, _, _, _, _, _, _, _, _, _, _, _, _, _, _, _, _, _, _, _, _, _, _, _, _, _, _, _, _, _, _, _, _, _, _, _, _, _, _, _, _, _, _, _, _, _, _, _, _, _, _, _, _, _, _, _, _, _, _, _, _, _, _, _, _, _, _, _, _, _, _, _, _, _, _, _, _, _, _, _, _, _, _, _, _, _, _, _, _, _, _, _, _, _, _]) _
  refine seqn rfl rfl (does_store (n := 8) (cs := [(Fl 0), (Fl 0), (Fl 0), (Fl 0), (Iv 0), (Iv 0), (Iv 0), (.slice none 0 0)]) (u := (.agg #[(Fl r62), (Fl r64), (Fl r66), (Fl r68), (Iv ((swpR A_g n_).x)), (Iv ((swpR A_g n_).y)), (Iv ((swpR A_g n_).z)), (.slice p72 (((swpR A_g n_).vals).length) q73)])) (ev rfl) (ev rfl) Try.sizeOf31 rfl hB77 (Nat.le_of_ble_eq_true rfl) rfl) ?_; rintro _ w85 ⟨rfl, W83, hB84⟩
  change Blk _ _ [(Fl r62), (Fl r64), (Fl r66), (Fl r68), (Iv ((swpR A_g n_).x)), (Iv ((swpR A_g n_).y)), (Iv ((swpR A_g n_).z)), (.slice p72 (((swpR A_g n_).vals).length) q73)] at hB84
  have X86 := Below.wr X82 W83 g81
  refine q_is rfl rfl (does_assign (u := (Bo (swpOk A_g n_))) (ev rfl)) (by dsimp only [List.set]; try rfl) ?_
  refine wpList_nil (hK33 _ _ ?_)
  refine wp_seq_k fun K87 hK87 => ?_
  refine wp_region_lit ?_
  refine q_is rfl rfl (does_loadAgg (cs := [(Fl r1), (Fl r3), (Fl r5), (Fl r7), (Iv A_g.x), (Iv A_g.y), (Iv A_g.z), (.slice p11 A_g.vals.length q12)]) (ev rfl) Try.isAgg27 Try.sizeOf27 (Blk.cells (((((hB17.ext E24).ext E34).ext E56).ext E78).wr W83 (Nat.ne_of_lt n80))) rfl) (by dsimp only [List.set]; try rfl) ?_
  refine seqd rfl rfl (does_call (args := #[(.agg #[(Fl r1), (Fl r3), (Fl r5), (Fl r7), (Iv A_g.x), (Iv A_g.y), (Iv A_g.z), (.slice p11 A_g.vals.length q12)])]) cal9 (evs rfl) (c_laws_toGrid [(Fl r1), (Fl r3), (Fl r5), (Fl r7), (Iv A_g.x), (Iv A_g.y), (Iv A_g.z), (.slice p11 A_g.vals.length q12)] A_g _ ⟨r1, r3, r5, r7, (.slice p11 A_g.vals.length q12), rfl, h2, h4, h6, h8, (Sl.ext hs13 RF.mono X86)⟩ (by omega))) ?_; rintro _ w89 ⟨E88, ⟨cs91, Lw92, rfl, hh90, hw93⟩⟩
  have X94 := Ext.gr X86 E88
  have n95 : b15 < w85.heap.size := Blk.lt (((((hB17.ext E24).ext E34).ext E56).ext E78).wr W83 (Nat.ne_of_lt n80))
  have n96 : b75 < w85.heap.size := Blk.lt hB84
  obtain ⟨r97, r99, r101, r103, y105, rfl, h98, h100, h102, h104, h106⟩ := hh90.get
  have h106l := Sl.len h106; obtain ⟨p107, q108, rfl⟩ := Sl.shape h106
  have hh109 : Hang w85.heap.size w89 (fun u => Sl RF 1 u (.slice p107 A_g.vals.length q108) A_g.vals) := fun u hu => by obtain ⟨_, _, _, _, _, hq, _, _, _, _, _⟩ := hh90 u hu; cases hq; assumption
  have hw110 : WL 1 w85.heap.size w89 Lw92 (.slice p107 A_g.vals.length q108) A_g.vals.length := hw93
  show wpList _ _ _ _ (fr [_, _, _, _, _, _, _, _, _, _, _, _, _, _, _, _, _, _, _, _, _, _, _, _, _, _, _, _, _, _, _, _, _, _, _, _, _, _, _, _, _, _, _, _, _, _, _, _, _, _, _, _, _, _, _, _, _, _, _, _, _, _, _, _, _, _, _, _, _, _, _, _, _, _, _, _, _, _, _, _, _, _, _, _, _, _, _, _, _, _, _, _, _, _, _, _, _, _, _, _, _]) _
  refine seqd rfl rfl (does_alloc z31) ?_; rintro _ w115 ⟨b111, rfl, hb112, hB113, E114⟩
  have n116 : b15 < b111 := Nat.lt_of_lt_of_le (Blk.lt ((((((hB17.ext E24).ext E34).ext E56).ext E78).wr W83 (Nat.ne_of_lt n80)).ext E88)) hb112
  have n117 : b75 < b111 := Nat.lt_of_lt_of_le (Blk.lt (hB84.ext E88)) hb112
  have g118 : w.heap.size ≤ b111 := Nat.le_trans (Below.size X94) hb112
  change Blk _ _ [(Fl 0), (Fl 0), (Fl 0), (Fl 0), (Iv 0), (Iv 0), (Iv 0), (.slice none 0 0)] at hB113
  have X119 := Ext.gr X94 E114
  show wpList _ _ _ _ (fr [_, _, _, _, _, _, _, _, _, _, _, _, _, _, _, _, _, _, _, _, _, _, _, _, _, _, _, _, _, _, _, _, _, _, _, _, _, _, _, _, _, _, _, _, _, _, _, _, _, _, _, _, _, _, _, _, _, _, _, _, _, _, _, _, _, _, _, _, _, _, _, _, _, _, _, _, _, _, _, _, _, _, _, _, _, _, _, _, _, _, _, _, _, _, _, _, _, _, _, _, _]) _
  refine seqn rfl rfl (does_store (n := 8) (cs := [(Fl 0), (Fl 0), (Fl 0), (Fl 0), (Iv 0), (Iv 0), (Iv 0), (.slice none 0 0)]) (u := (.agg #[(Fl r97), (Fl r99), (Fl r101), (Fl r103), (Iv A_g.x), (Iv A_g.y), (Iv A_g.z), (.slice p107 A_g.vals.length q108)])) (ev rfl) (ev rfl) Try.sizeOf31 rfl hB113 (Nat.le_of_ble_eq_true rfl) rfl) ?_; rintro _ w122 ⟨rfl, W120, hB121⟩
  change Blk _ _ [(Fl r97), (Fl r99), (Fl r101), (Fl r103), (Iv A_g.x), (Iv A_g.y), (Iv A_g.z), (.slice p107 A_g.vals.length q108)] at hB121
  have X123 := Below.wr X119 W120 g118
  refine wpList_nil (hK87 _ _ ?_)
  refine wp_seq_k fun K124 hK124 => ?_
  refine wp_region_lit ?_
  refine q_is rfl rfl (does_loadAgg (cs := [(Fl r97), (Fl r99), (Fl r101), (Fl r103), (Iv A_g.x), (Iv A_g.y), (Iv A_g.z), (.slice p107 A_g.vals.length q108)]) (ev rfl) Try.isAgg31 Try.sizeOf31 (Blk.cells hB121) rfl) (by dsimp only [List.set]; try rfl) ?_
  refine q_is rfl rfl (does_move (u := (Iv n_)) (ev rfl)) (by dsimp only [List.set]; try rfl) ?_
  refine seqd rfl rfl (does_call (args := #[(.agg #[(Fl r97), (Fl r99), (Fl r101), (Fl r103), (Iv A_g.x), (Iv A_g.y), (Iv A_g.z), (.slice p107 A_g.vals.length q108)]), (Iv n_)]) cal20 (evs rfl) (c_impl_SweepGrid [(Fl r97), (Fl r99), (Fl r101), (Fl r103), (Iv A_g.x), (Iv A_g.y), (Iv A_g.z), (.slice p107 A_g.vals.length q108)] A_g n_ _ ⟨r97, r99, r101, r103, (.slice p107 A_g.vals.length q108), rfl, h98, h100, h102, h104, (hh109 _ (((Same.refl _ _).ext E114).wr W120 (.inr (Nat.le_trans (Nat.le_refl _) hb112))))⟩)) ?_; rintro _ w126 ⟨E125, ⟨cs128, Lw129, rfl, hh127, hw130⟩⟩
  have X131 := Ext.gr X123 E125
  have n132 : b15 < w122.heap.size := Blk.lt ((((((((hB17.ext E24).ext E34).ext E56).ext E78).wr W83 (Nat.ne_of_lt n80)).ext E88).ext E114).wr W120 (Nat.ne_of_lt n116))
  have n133 : b75 < w122.heap.size := Blk.lt (((hB84.ext E88).ext E114).wr W120 (Nat.ne_of_lt n117))
  have n134 : b111 < w122.heap.size := Blk.lt hB121
  obtain ⟨r135, r137, r139, r141, y143, rfl, h136, h138, h140, h142, h144⟩ := hh127.get
  have h144l := Sl.len h144; obtain ⟨p145, q146, rfl⟩ := Sl.shape h144
  have hh147 : Hang w122.heap.size w126 (fun u => Sl RF 1 u (.slice p145 (((swpR A_g n_).vals).length) q146) ((swpR A_g n_).vals)) := fun u hu => by obtain ⟨_, _, _, _, _, hq, _, _, _, _, _⟩ := hh127 u hu; cases hq; assumption
  have hw148 : WL 1 w122.heap.size w126 Lw129 (.slice p145 (((swpR A_g n_).vals).length) q146) ((swpR A_g n_).vals).length := hw130
  show wpList _ _ _ _ (fr [_, _, _, _, _, _, _, _, _, _, _, _, _, _, _, _, _, _, _, _, _, _, _, _, _, _, _, _, _, _, _, _, _, _, _, _, _, _, _, _, _, _, _, _, _, _, _, _, _, _, _, _, _, _, _, _, _, _, _, _, _, _, _, _, _, _, _, _, _, _, _, _, _, _, _, _, _, _, _, _, _, _, _, _, _, _, _, _, _, _, _, _, _, _, _, _, _, _, _, _, _]) _
  refine q_is rfl rfl (does_move (u := (.tuple #[(.agg #[(Fl r135), (Fl r137), (Fl r139), (Fl r141), (Iv ((swpR A_g n_).x)), (Iv ((swpR A_g n_).y)), (Iv ((swpR A_g n_).z)), (.slice p145 (((swpR A_g n_).vals).length) q146)]), (Bo (swpOk A_g n_))])) (ev rfl)) (by dsimp only [List.set]; try rfl) ?_
  refine q_is rfl rfl (does_extract (vs := #[(.agg #[(Fl r135), (Fl r137), (Fl r139), (Fl r141), (Iv ((swpR A_g n_).x)), (Iv ((swpR A_g n_).y)), (Iv ((swpR A_g n_).z)), (.slice p145 (((swpR A_g n_).vals).length) q146)]), (Bo (swpOk A_g n_))]) (u := (.agg #[(Fl r135), (Fl r137), (Fl r139), (Fl r141), (Iv ((swpR A_g n_).x)), (Iv ((swpR A_g n_).y)), (Iv ((swpR A_g n_).z)), (.slice p145 (((swpR A_g n_).vals).length) q146)])) (ev rfl) rfl) (by dsimp only [List.set]; try rfl) ?_
  refine q_is rfl rfl (does_extract (vs := #[(.agg #[(Fl r135), (Fl r137), (Fl r139), (Fl r141), (Iv ((swpR A_g n_).x)), (Iv ((swpR A_g n_).y)), (Iv ((swpR A_g n_).z)), (.slice p145 (((swpR A_g n_).vals).length) q146)]), (Bo (swpOk A_g n_))]) (u := (Bo (swpOk A_g n_))) (ev rfl) rfl) (by dsimp only [List.set]; try rfl) ?_
  refine seqd rfl rfl (does_alloc z31) ?_; rintro _ w153 ⟨b149, rfl, hb150, hB151, E152⟩
  have n154 : b15 < b149 := Nat.lt_of_lt_of_le (Blk.lt (((((((((hB17.ext E24).ext E34).ext E56).ext E78).wr W83 (Nat.ne_of_lt n80)).ext E88).ext E114).wr W120 (Nat.ne_of_lt n116)).ext E125)) hb150
  have n155 : b75 < b149 := Nat.lt_of_lt_of_le (Blk.lt ((((hB84.ext E88).ext E114).wr W120 (Nat.ne_of_lt n117)).ext E125)) hb150
  have n156 : b111 < b149 := Nat.lt_of_lt_of_le (Blk.lt (hB121.ext E125)) hb150
  have g157 : w.heap.size ≤ b149 := Nat.le_trans (Below.size X131) hb150
  change Blk _ _ [(Fl 0), (Fl 0), (Fl 0), (Fl 0), (Iv 0), (Iv 0), (Iv 0), (.slice none 0 0)] at hB151
  have X158 := Ext.gr X131 E152
  show wpList _ _ _ _ (fr [_, _, _, _, _, _, _, _, _, _, _, _, _, _, _, _, _, _, _, _, _, _, _, _, _, _, _, _, _, _, _, _, _, _, _, _, _, _, _, _, _, _, _, _, _, _, _, _, _, _, _, _, _, _, _, _, _, _, _, _, _, _, _, _, _, _, _, _, _, _, _, _, _, _, _, _, _, _, _, _, _, _, _, _, _, _, _, _, _, _, _, _, _, _, _, _, _, _, _, _, _]) _
  refine seqn rfl rfl (does_store (n := 8) (cs := [(Fl 0), (Fl 0), (Fl 0), (Fl 0), (Iv 0), (Iv 0), (Iv 0), (.slice none 0 0)]) (u := (.agg #[(Fl r135), (Fl r137), (Fl r139), (Fl r141), (Iv ((swpR A_g n_).x)), (Iv ((swpR A_g n_).y)), (Iv ((swpR A_g n_).z)), (.slice p145 (((swpR A_g n_).vals).length) q146)])) (ev rfl) (ev rfl) Try.sizeOf31 rfl hB151 (Nat.le_of_ble_eq_true rfl) rfl) ?_; rintro _ w161 ⟨rfl, W159, hB160⟩
  change Blk _ _ [(Fl r135), (Fl r137), (Fl r139), (Fl r141), (Iv ((swpR A_g n_).x)), (Iv ((swpR A_g n_).y)), (Iv ((swpR A_g n_).z)), (.slice p145 (((swpR A_g n_).vals).length) q146)] at hB160
  have X162 := Below.wr X158 W159 g157
  refine q_is rfl rfl (does_assign (u := (Bo (swpOk A_g n_))) (ev rfl)) (by dsimp only [List.set]; try rfl) ?_
  refine wpList_nil (hK124 _ _ ?_)
  refine wp_seq_k fun K163 hK163 => ?_
  refine wp_seq_k fun K164 hK164 => ?_
  obtain ⟨β1, hβ1⟩ : ∃ b : Bool, b = (sameG (swpR A_g n_) (swpR A_g n_)) := ⟨_, rfl⟩
  obtain ⟨β2, hβ2⟩ : ∃ b : Bool, b = ((swpOk A_g n_) != (swpOk A_g n_)) := ⟨_, rfl⟩
  refine region_text (
    [Fact.pure [] (fun v => v = (.agg #[(Fl r135), (Fl r137), (Fl r139), (Fl r141), (Iv ((swpR A_g n_).x)), (Iv ((swpR A_g n_).y)), (Iv ((swpR A_g n_).z)), (.slice p145 (((swpR A_g n_).vals).length) q146)])),
    Fact.pure [] (fun v => v = (.agg #[(Fl r62), (Fl r64), (Fl r66), (Fl r68), (Iv ((swpR A_g n_).x)), (Iv ((swpR A_g n_).y)), (Iv ((swpR A_g n_).z)), (.slice p72 (((swpR A_g n_).vals).length) q73)])),
    Fact.pure [36, 37] (fun v => v = (Bo β1)),
    Fact.pure [38] (fun v => v = (Bo (!β1))),
    Fact.pure [39] (fun v => v = (Bo (!β1))),
    Fact.pure [40] (fun v => (!β1) = false → v = (Bo (swpOk A_g n_))),
    Fact.pure [40] (fun v => (!β1) = false → v = (Bo (swpOk A_g n_))),
    Fact.pure [41, 42, 40] (fun v => (!β1) = false → v = (Bo β2)),
    Fact.pure [40, 43] (fun v => v = (Bo ((!β1) || β2)))]) (by simp [Fact.pure, Fact.mem]) ?_
  refine RW_d _ rfl (fun v => by dsimp only [List.set]; try rfl) (fun u hu hF => ?_) (fun v165 => ?_)
  · clear hF
    refine doesG_un rfl ?_
    refine (does_loadAgg (cs := [(Fl r135), (Fl r137), (Fl r139), (Fl r141), (Iv ((swpR A_g n_).x)), (Iv ((swpR A_g n_).y)), (Iv ((swpR A_g n_).z)), (.slice p145 (((swpR A_g n_).vals).length) q146)]) (ev rfl) Try.isAgg31 Try.sizeOf31 (Blk.cells (hB160.ext hu)) rfl).mono ?_; rintro _ _ ⟨rfl, rfl⟩
    exact ⟨rfl, Ext.refl _⟩
  refine RW_d _ rfl (fun v => by dsimp only [List.set]; try rfl) (fun u hu hF => ?_) (fun v166 => ?_)
  · clear hF
    refine doesG_un rfl ?_
    refine (does_loadAgg (cs := [(Fl r62), (Fl r64), (Fl r66), (Fl r68), (Iv ((swpR A_g n_).x)), (Iv ((swpR A_g n_).y)), (Iv ((swpR A_g n_).z)), (.slice p72 (((swpR A_g n_).vals).length) q73)]) (ev rfl) Try.isAgg31 Try.sizeOf31 (Blk.cells (((((((hB84.ext E88).ext E114).wr W120 (Nat.ne_of_lt n117)).ext E125).ext E152).wr W159 (Nat.ne_of_lt n155)).ext hu)) rfl).mono ?_; rintro _ _ ⟨rfl, rfl⟩
    exact ⟨rfl, Ext.refl _⟩
  refine RW_d _ rfl (fun v => by dsimp only [List.set]; try rfl) (fun u hu hF => ?_) (fun v167 => ?_)
  · have h36_ : v165 = (.agg #[(Fl r135), (Fl r137), (Fl r139), (Fl r141), (Iv ((swpR A_g n_).x)), (Iv ((swpR A_g n_).y)), (Iv ((swpR A_g n_).z)), (.slice p145 (((swpR A_g n_).vals).length) q146)]) := hF.1
    have h37_ : v166 = (.agg #[(Fl r62), (Fl r64), (Fl r66), (Fl r68), (Iv ((swpR A_g n_).x)), (Iv ((swpR A_g n_).y)), (Iv ((swpR A_g n_).z)), (.slice p72 (((swpR A_g n_).vals).length) q73)]) := hF.2.1
    clear hF
    refine doesG_un rfl ?_
    obtain rfl := h36_
    obtain rfl := h37_
    refine (does_call (args := #[(.agg #[(Fl r135), (Fl r137), (Fl r139), (Fl r141), (Iv ((swpR A_g n_).x)), (Iv ((swpR A_g n_).y)), (Iv ((swpR A_g n_).z)), (.slice p145 (((swpR A_g n_).vals).length) q146)]), (.agg #[(Fl r62), (Fl r64), (Fl r66), (Fl r68), (Iv ((swpR A_g n_).x)), (Iv ((swpR A_g n_).y)), (Iv ((swpR A_g n_).z)), (.slice p72 (((swpR A_g n_).vals).length) q73)])]) cal11 (evs rfl) (c_laws_eqGrid [(Fl r135), (Fl r137), (Fl r139), (Fl r141), (Iv ((swpR A_g n_).x)), (Iv ((swpR A_g n_).y)), (Iv ((swpR A_g n_).z)), (.slice p145 (((swpR A_g n_).vals).length) q146)] (swpR A_g n_) [(Fl r62), (Fl r64), (Fl r66), (Fl r68), (Iv ((swpR A_g n_).x)), (Iv ((swpR A_g n_).y)), (Iv ((swpR A_g n_).z)), (.slice p72 (((swpR A_g n_).vals).length) q73)] (swpR A_g n_) _ ⟨r135, r137, r139, r141, (.slice p145 (((swpR A_g n_).vals).length) q146), rfl, h136, h138, h140, h142, (Sl.ext (hh147 _ (((Same.refl _ _).ext E152).wr W159 (.inr (Nat.le_trans (Nat.le_refl _) hb150)))) RF.mono hu)⟩ ⟨r62, r64, r66, r68, (.slice p72 (((swpR A_g n_).vals).length) q73), rfl, h63, h65, h67, h69, (Sl.ext (hh74 _ (((((((((Same.refl _ _).ext E78).wr W83 (.inr (Nat.le_trans (Nat.le_refl _) hb76))).ext E88).ext E114).wr W120 (.inr (Nat.le_trans (Nat.le_trans (Nat.le_trans (Below.size E78) (Nat.le_of_eq (Eq.symm (Wr.size W83)))) (Below.size E88)) hb112))).ext E125).ext E152).wr W159 (.inr (Nat.le_trans (Nat.le_trans (Nat.le_trans (Nat.le_trans (Nat.le_trans (Nat.le_trans (Below.size E78) (Nat.le_of_eq (Eq.symm (Wr.size W83)))) (Below.size E88)) (Below.size E114)) (Nat.le_of_eq (Eq.symm (Wr.size W120)))) (Below.size E125)) hb150)))) RF.mono hu)⟩)).mono ?_; rintro v u' ⟨hx, hv⟩
    exact ⟨hv.trans (by simp only [hβ1]), hx⟩
  refine RW_d _ rfl (fun v => by dsimp only [List.set]; try rfl) (fun u hu hF => ?_) (fun v168 => ?_)
  · have h38_ : v167 = (Bo β1) := hF.1
    clear hF
    refine doesG_un rfl ?_
    obtain rfl := h38_
    refine (does_not (ev rfl)).mono ?_; rintro _ _ ⟨rfl, rfl⟩
    exact ⟨rfl, Ext.refl _⟩
  refine RW_d _ rfl (fun v => by dsimp only [List.set]; try rfl) (fun u hu hF => ?_) (fun v169 => ?_)
  · have h39_ : v168 = (Bo (!β1)) := hF.1
    clear hF
    refine doesG_un rfl ?_
    obtain rfl := h39_
    refine (does_move (u := (Bo (!β1))) (ev rfl)).mono ?_; rintro _ _ ⟨rfl, rfl⟩
    exact ⟨rfl, Ext.refl _⟩
  refine RW_d _ rfl (fun v => by dsimp only [List.set]; try rfl) (fun u hu hF => ?_) (fun v170 => ?_)
  · have h40_ : v169 = (Bo (!β1)) := hF.1
    clear hF
    obtain rfl := h40_
    refine doesG_g (b := (!β1)) rfl (yld rfl rfl) (fun hg1 => ?_) (fun hc => ⟨fun hg1 => absurd hg1 hc, Ext.refl _⟩)
    refine (does_move (u := (Bo (swpOk A_g n_))) (ev rfl)).mono ?_; rintro _ _ ⟨rfl, rfl⟩
    exact ⟨fun _ => rfl, Ext.refl _⟩
  refine RW_d _ rfl (fun v => by dsimp only [List.set]; try rfl) (fun u hu hF => ?_) (fun v171 => ?_)
  · have h40_ : v169 = (Bo (!β1)) := hF.1
    clear hF
    obtain rfl := h40_
    refine doesG_g (b := (!β1)) rfl (yld rfl rfl) (fun hg1 => ?_) (fun hc => ⟨fun hg1 => absurd hg1 hc, Ext.refl _⟩)
    refine (does_move (u := (Bo (swpOk A_g n_))) (ev rfl)).mono ?_; rintro _ _ ⟨rfl, rfl⟩
    exact ⟨fun _ => rfl, Ext.refl _⟩
  refine RW_d _ rfl (fun v => by dsimp only [List.set]; try rfl) (fun u hu hF => ?_) (fun v172 => ?_)
  · have h41_ : (!β1) = false → v170 = (Bo (swpOk A_g n_)) := hF.1
    have h42_ : (!β1) = false → v171 = (Bo (swpOk A_g n_)) := hF.2.1
    have h40_ : v169 = (Bo (!β1)) := hF.2.2.1
    clear hF
    obtain rfl := h40_
    refine doesG_g (b := (!β1)) rfl (yld rfl rfl) (fun hg1 => ?_) (fun hc => ⟨fun hg1 => absurd hg1 hc, Ext.refl _⟩)
    obtain rfl := h41_ hg1
    obtain rfl := h42_ hg1
    refine (does_bne (p := (swpOk A_g n_)) (q := (swpOk A_g n_)) Try.underlying4 (ev rfl) (ev rfl)).mono ?_; rintro _ _ ⟨rfl, rfl⟩
    exact ⟨fun _ => (by first | rfl | (show _ = _; simp only [hβ2]; done) | (show _ = _; simp only [hβ2]; rfl)), Ext.refl _⟩
  refine RW_d _ rfl (fun v => by dsimp only [List.set]; try rfl) (fun u hu hF => ?_) (fun v173 => ?_)
  · have h40_ : v169 = (Bo (!β1)) := hF.1
    have h43_ : (!β1) = false → v172 = (Bo β2) := hF.2.1
    clear hF
    refine doesG_un rfl ?_
    skip
    obtain rfl := h40_
    refine (does_pick (b := (!β1)) (ev rfl) (ev rfl) (ev rfl)).mono ?_; rintro _ _ ⟨rfl, rfl⟩; refine ⟨?_, Ext.refl _⟩; skip
    cases hbb : (!β1)
    all_goals first | rfl | (have e_ := h43_ hbb; subst e_; rfl) | (simp [hbb] at h43_ ⊢; first | done | rfl | (subst h43_; rfl) | simp_all) | (simp [hbb] at h43_ ⊢; done)
  refine RW_fin ?_; intro w174 E175 hP176
  obtain ⟨⟨⟨⟨⟨⟨⟨⟨⟨-, -⟩, -⟩, -⟩, -⟩, -⟩, -⟩, -⟩, -⟩, q177⟩ := hP176
  have X178 := Ext.gr X162 E175
  have q177 : v173 = (Bo ((!β1) || β2)) := q177
  obtain rfl := q177
  show wpList _ _ _ _ (fr [_, _, _, _, _, _, _, _, _, _, _, _, _, _, _, _, _, _, _, _, _, _, _, _, _, _, _, _, _, _, _, _, _, _, _, _, _, _, _, _, _, _, _, _, _, _, _, _, _, _, _, _, _, _, _, _, _, _, _, _, _, _, _, _, _, _, _, _, _, _, _, _, _, _, _, _, _, _, _, _, _, _, _, _, _, _, _, _, _, _, _, _, _, _, _, _, _, _, _, _, _]) _
  refine wpList_nil (hK164 _ _ ?_)
  refine wp_cond_split (t := (!β1) || β2) (ev rfl) (fun c179 => ?_) (fun c179 => ?_)
  · have c179' := c179
    (try simp only [hβ1, hβ2, sameG_self, bne_self_eq_false] at c179')
    (try simp only [hβ1, hβ2] at c179')
    (try simp only [icmp, Bool.and_eq_true, Bool.or_eq_true, Bool.and_eq_false_iff, Bool.or_eq_false_iff, Bool.not_eq_true', Bool.not_eq_false', decide_eq_true_eq, decide_eq_false_iff_not, beq_iff_eq, bne_iff_ne, beq_eq_false_iff_ne, bne_eq_false_iff_eq] at c179')
    refine wp_seq_k fun K180 hK180 => ?_
    refine wp_region_lit ?_
    refine q_is rfl rfl (does_assign (u := (Bo false)) (ev rfl)) (by dsimp only [List.set]; try rfl) ?_
    refine wpList_nil (hK180 _ _ ?_)
    refine wp_ret ?_
    dsimp only [Exit.then, Exit.inBlock]
    refine ret_val (v := (Bo false)) (res_T rfl (slot rfl)) X178 ?_
    try simp only [h2, h4, h6, h8, h43, h45, h47, h49, h63, h65, h67, h69, h98, h100, h102, h104, h136, h138, h140, h142, hβ1, hβ2, sameG_self, bne_self_eq_false] at c31 c179
    have x181 : true = false := by first | with_reducible rfl | (exfalso; omega) | (exfalso; simp only [mkL_len] at * <;> omega) | (exfalso; rcases c179' with (hh | hh) | hh <;> first | omega | (exact Bool.noConfusion hh)) | (exfalso; rcases c179' with hh | hh <;> first | omega | (exact Bool.noConfusion hh)) | (simp only [sameG_self, bne_self_eq_false, h2, h4, h6, h8, h43, h45, h47, h49, h63, h65, h67, h69, h98, h100, h102, h104, h136, h138, h140, h142, hβ1, hβ2, c31, c179]; done) | (simp [sameG_self, bne_self_eq_false, h2, h4, h6, h8, h43, h45, h47, h49, h63, h65, h67, h69, h98, h100, h102, h104, h136, h138, h140, h142, hβ1, hβ2, c31, c179]; done) | (simp_all; done) | (exfalso; simp_all; done)
    exact (by first | rfl | rw [x181])
  have c179' := c179
  (try simp only [hβ1, hβ2, sameG_self, bne_self_eq_false] at c179')
  (try simp only [hβ1, hβ2] at c179')
  (try simp only [icmp, Bool.and_eq_true, Bool.or_eq_true, Bool.and_eq_false_iff, Bool.or_eq_false_iff, Bool.not_eq_true', Bool.not_eq_false', decide_eq_true_eq, decide_eq_false_iff_not, beq_iff_eq, bne_iff_ne, beq_eq_false_iff_ne, bne_eq_false_iff_eq] at c179')
  refine wp_skip (hK163 _ _ ?_)
  refine wp_seq_k fun K182 hK182 => ?_
  refine wp_seq_k fun K183 hK183 => ?_
  refine region_draw (
    [Fact.pure [] (fun v => v = (.agg #[(Fl r97), (Fl r99), (Fl r101), (Fl r103), (Iv A_g.x), (Iv A_g.y), (Iv A_g.z), (.slice p107 A_g.vals.length q108)])),
    Fact.pure [] (fun v => v = (.agg #[(Fl r1), (Fl r3), (Fl r5), (Fl r7), (Iv A_g.x), (Iv A_g.y), (Iv A_g.z), (.slice p11 A_g.vals.length q12)])),
    Fact.mem [46] (fun v w' => ∃ cs_1 : List Value, ∃ Lw_2 : List Nat, v = (.agg cs_1.toArray) ∧ Hang w174.heap.size w' (fun u => RGridT u A_g cs_1) ∧ WL 1 w174.heap.size w' Lw_2 (cellN cs_1 7) A_g.vals.length) (by rintro v w1 w2 hx ⟨z1, z2, rfl, k0, k1⟩; exact ⟨_, _, rfl, (k0.ext hx), (k1.same (Same.of_ext hx))⟩),
    Fact.pure [45, 47] (fun v => v = (Bo (sameG A_g A_g))),
    Fact.pure [48] (fun v => v = (Bo (!(sameG A_g A_g))))]) mixed (by kernel_rfl) (by intro _ _ d _ _ h; cases d <;> exact h) ?_
  obtain ⟨w184, hw186⟩ : ∃ w', w' = World.drew w174 := ⟨_, rfl⟩; rw [← hw186]; have E185 : Ext w174 w184 := by rw [hw186]; exact Ext.draw _
  clear hw186
  have X187 := Ext.gr X178 E185
  refine RW_d _ rfl (fun v => by dsimp only [List.set]; try rfl) (fun u hu hF => ?_) (fun v188 => ?_)
  · clear hF
    refine doesG_un rfl ?_
    refine (does_loadAgg (cs := [(Fl r97), (Fl r99), (Fl r101), (Fl r103), (Iv A_g.x), (Iv A_g.y), (Iv A_g.z), (.slice p107 A_g.vals.length q108)]) (ev rfl) Try.isAgg31 Try.sizeOf31 (Blk.cells ((((((hB121.ext E125).ext E152).wr W159 (Nat.ne_of_lt n156)).ext E175).ext E185).ext hu)) rfl).mono ?_; rintro _ _ ⟨rfl, rfl⟩
    exact ⟨rfl, Ext.refl _⟩
  refine RW_d _ rfl (fun v => by dsimp only [List.set]; try rfl) (fun u hu hF => ?_) (fun v189 => ?_)
  · clear hF
    refine doesG_un rfl ?_
    refine (does_loadAgg (cs := [(Fl r1), (Fl r3), (Fl r5), (Fl r7), (Iv A_g.x), (Iv A_g.y), (Iv A_g.z), (.slice p11 A_g.vals.length q12)]) (ev rfl) Try.isAgg27 Try.sizeOf27 (Blk.cells ((((((((((((((hB17.ext E24).ext E34).ext E56).ext E78).wr W83 (Nat.ne_of_lt n80)).ext E88).ext E114).wr W120 (Nat.ne_of_lt n116)).ext E125).ext E152).wr W159 (Nat.ne_of_lt n154)).ext E175).ext E185).ext hu)) rfl).mono ?_; rintro _ _ ⟨rfl, rfl⟩
    exact ⟨rfl, Ext.refl _⟩
  refine RW_d _ rfl (fun v => by dsimp only [List.set]; try rfl) (fun u hu hF => ?_) (fun v190 => ?_)
  · have h46_ : v189 = (.agg #[(Fl r1), (Fl r3), (Fl r5), (Fl r7), (Iv A_g.x), (Iv A_g.y), (Iv A_g.z), (.slice p11 A_g.vals.length q12)]) := hF.1
    clear hF
    refine doesG_un rfl ?_
    obtain rfl := h46_
    refine (does_call (args := #[(.agg #[(Fl r1), (Fl r3), (Fl r5), (Fl r7), (Iv A_g.x), (Iv A_g.y), (Iv A_g.z), (.slice p11 A_g.vals.length q12)])]) cal9 (evs rfl) (c_laws_toGrid [(Fl r1), (Fl r3), (Fl r5), (Fl r7), (Iv A_g.x), (Iv A_g.y), (Iv A_g.z), (.slice p11 A_g.vals.length q12)] A_g _ ⟨r1, r3, r5, r7, (.slice p11 A_g.vals.length q12), rfl, h2, h4, h6, h8, (Sl.ext (Sl.ext hs13 RF.mono (Ext.gr X178 E185)) RF.mono hu)⟩ (by omega))).mono ?_; rintro v u' ⟨hx, ⟨csn1, Lwn2, hv, k0, k1⟩⟩
    exact ⟨⟨csn1, Lwn2, hv, (Hang.le k0 (Nat.le_trans (Below.size E185) (Below.size hu))), (WL.le k1 (Nat.le_trans (Below.size E185) (Below.size hu)))⟩, hx⟩
  refine RW_d _ rfl (fun v => by dsimp only [List.set]; try rfl) (fun u hu hF => ?_) (fun v191 => ?_)
  · have h45_ : v188 = (.agg #[(Fl r97), (Fl r99), (Fl r101), (Fl r103), (Iv A_g.x), (Iv A_g.y), (Iv A_g.z), (.slice p107 A_g.vals.length q108)]) := hF.1
    have h47_ : ∃ cs_1 : List Value, ∃ Lw_2 : List Nat, v190 = (.agg cs_1.toArray) ∧ Hang w174.heap.size u (fun u => RGridT u A_g cs_1) ∧ WL 1 w174.heap.size u Lw_2 (cellN cs_1 7) A_g.vals.length := hF.2.1
    clear hF
    refine doesG_un rfl ?_
    obtain rfl := h45_
    obtain ⟨cs47_2, Lw47_3, rfl, hh47_1, hw47_4⟩ := h47_
    obtain ⟨r47_5, r47_7, r47_9, r47_11, y47_13, rfl, h47_6, h47_8, h47_10, h47_12, h47_14⟩ := hh47_1.get
    have hh47_14 := h47_14; obtain ⟨p47_15, q47_16, rfl⟩ := Sl.shape h47_14
    refine (does_call (args := #[(.agg #[(Fl r97), (Fl r99), (Fl r101), (Fl r103), (Iv A_g.x), (Iv A_g.y), (Iv A_g.z), (.slice p107 A_g.vals.length q108)]), (.agg #[(Fl r47_5), (Fl r47_7), (Fl r47_9), (Fl r47_11), (Iv A_g.x), (Iv A_g.y), (Iv A_g.z), (.slice p47_15 A_g.vals.length q47_16)])]) cal11 (evs rfl) (c_laws_eqGrid [(Fl r97), (Fl r99), (Fl r101), (Fl r103), (Iv A_g.x), (Iv A_g.y), (Iv A_g.z), (.slice p107 A_g.vals.length q108)] A_g [(Fl r47_5), (Fl r47_7), (Fl r47_9), (Fl r47_11), (Iv A_g.x), (Iv A_g.y), (Iv A_g.z), (.slice p47_15 A_g.vals.length q47_16)] A_g _ ⟨r97, r99, r101, r103, (.slice p107 A_g.vals.length q108), rfl, h98, h100, h102, h104, (Sl.ext (hh109 _ ((((((((Same.refl _ _).ext E114).wr W120 (.inr (Nat.le_trans (Nat.le_refl _) hb112))).ext E125).ext E152).wr W159 (.inr (Nat.le_trans (Nat.le_trans (Nat.le_trans (Below.size E114) (Nat.le_of_eq (Eq.symm (Wr.size W120)))) (Below.size E125)) hb150))).ext E175).ext E185)) RF.mono hu)⟩ ⟨r47_5, r47_7, r47_9, r47_11, (.slice p47_15 A_g.vals.length q47_16), rfl, (by assumption), (by assumption), (by assumption), (by assumption), hh47_14⟩)).mono ?_; rintro v u' ⟨hx, hv⟩
    exact ⟨hv.trans (by simp only [h47_6, h47_8, h47_10, h47_12]), hx⟩
  refine RW_d _ rfl (fun v => by dsimp only [List.set]; try rfl) (fun u hu hF => ?_) (fun v192 => ?_)
  · have h48_ : v191 = (Bo (sameG A_g A_g)) := hF.1
    clear hF
    refine doesG_un rfl ?_
    obtain rfl := h48_
    refine (does_not (ev rfl)).mono ?_; rintro _ _ ⟨rfl, rfl⟩
    exact ⟨rfl, Ext.refl _⟩
  refine RW_fin ?_; intro w193 E194 hP195
  obtain ⟨⟨⟨⟨⟨-, -⟩, -⟩, -⟩, -⟩, q196⟩ := hP195
  have X197 := Ext.gr X187 E194
  have q196 : v192 = (Bo (!(sameG A_g A_g))) := q196
  obtain rfl := q196
  show wpList _ _ _ _ (fr [_, _, _, _, _, _, _, _, _, _, _, _, _, _, _, _, _, _, _, _, _, _, _, _, _, _, _, _, _, _, _, _, _, _, _, _, _, _, _, _, _, _, _, _, _, _, _, _, _, _, _, _, _, _, _, _, _, _, _, _, _, _, _, _, _, _, _, _, _, _, _, _, _, _, _, _, _, _, _, _, _, _, _, _, _, _, _, _, _, _, _, _, _, _, _, _, _, _, _, _, _]) _
  refine wpList_nil (hK183 _ _ ?_)
  refine wp_cond_split (t := !(sameG A_g A_g)) (ev rfl) (fun c198 => ?_) (fun c198 => ?_)
  · rw [Bool.not_eq_true'] at c198
    have c198' := c198
    (try simp only [hβ1, hβ2, sameG_self, bne_self_eq_false] at c198')
    (try simp only [hβ1, hβ2] at c198')
    (try simp only [icmp, Bool.and_eq_true, Bool.or_eq_true, Bool.and_eq_false_iff, Bool.or_eq_false_iff, Bool.not_eq_true', Bool.not_eq_false', decide_eq_true_eq, decide_eq_false_iff_not, beq_iff_eq, bne_iff_ne, beq_eq_false_iff_ne, bne_eq_false_iff_eq] at c198')
    refine wp_seq_k fun K199 hK199 => ?_
    refine wp_region_lit ?_
    refine q_is rfl rfl (does_assign (u := (Bo false)) (ev rfl)) (by dsimp only [List.set]; try rfl) ?_
    refine wpList_nil (hK199 _ _ ?_)
    refine wp_ret ?_
    dsimp only [Exit.then, Exit.inBlock]
    refine ret_val (v := (Bo false)) (res_T rfl (slot rfl)) X197 ?_
    try simp only [h2, h4, h6, h8, h43, h45, h47, h49, h63, h65, h67, h69, h98, h100, h102, h104, h136, h138, h140, h142, hβ1, hβ2, sameG_self, bne_self_eq_false] at c31 c179 c198
    have x200 : true = false := by first | with_reducible rfl | (exfalso; omega) | (exfalso; simp only [mkL_len] at * <;> omega) | (exfalso; rcases c198' with (hh | hh) | hh <;> first | omega | (exact Bool.noConfusion hh)) | (exfalso; rcases c198' with hh | hh <;> first | omega | (exact Bool.noConfusion hh)) | (simp only [sameG_self, bne_self_eq_false, h2, h4, h6, h8, h43, h45, h47, h49, h63, h65, h67, h69, h98, h100, h102, h104, h136, h138, h140, h142, hβ1, hβ2, c31, c179, c198]; done) | (simp [sameG_self, bne_self_eq_false, h2, h4, h6, h8, h43, h45, h47, h49, h63, h65, h67, h69, h98, h100, h102, h104, h136, h138, h140, h142, hβ1, hβ2, c31, c179, c198]; done) | (simp_all; done) | (exfalso; simp_all; done)
    exact (by first | rfl | rw [x200])
  rw [Bool.not_eq_false'] at c198
  have c198' := c198
  (try simp only [hβ1, hβ2, sameG_self, bne_self_eq_false] at c198')
  (try simp only [hβ1, hβ2] at c198')
  (try simp only [icmp, Bool.and_eq_true, Bool.or_eq_true, Bool.and_eq_false_iff, Bool.or_eq_false_iff, Bool.not_eq_true', Bool.not_eq_false', decide_eq_true_eq, decide_eq_false_iff_not, beq_iff_eq, bne_iff_ne, beq_eq_false_iff_ne, bne_eq_false_iff_eq] at c198')
  refine wp_skip (hK182 _ _ ?_)
  refine wp_seq_k fun K201 hK201 => ?_
  refine wp_region_lit ?_
  refine q_is rfl rfl (does_assign (u := (Iv 1)) (ev rfl)) (by dsimp only [List.set]; try rfl) ?_
  refine wpList_nil (hK201 _ _ ?_)
  refine wp_seq_k fun K202 hK202 => ?_
  refine wp_region_lit ?_
  refine q_is rfl rfl (does_loadAgg (cs := [(Fl r97), (Fl r99), (Fl r101), (Fl r103), (Iv A_g.x), (Iv A_g.y), (Iv A_g.z), (.slice p107 A_g.vals.length q108)]) (ev rfl) Try.isAgg31 Try.sizeOf31 (Blk.cells ((((((hB121.ext E125).ext E152).wr W159 (Nat.ne_of_lt n156)).ext E175).ext E185).ext E194)) rfl) (by dsimp only [List.set]; try rfl) ?_
  refine q_is rfl rfl (does_move (u := (Iv 1)) (ev rfl)) (by dsimp only [List.set]; try rfl) ?_
  refine seqd rfl rfl (does_callK (args := #[(.agg #[(Fl r97), (Fl r99), (Fl r101), (Fl r103), (Iv A_g.x), (Iv A_g.y), (Iv A_g.z), (.slice p107 A_g.vals.length q108)]), (Iv 1)]) cal12 (evs rfl) (c_laws_markGrid (Fl r97) (Fl r99) (Fl r101) (Fl r103) (Iv A_g.x) (Iv A_g.y) (Iv A_g.z) (.slice p107 A_g.vals.length q108) A_g.vals.length Lw92 w85.heap.size 1 _ (hw110.same (((((((((Same.refl _ _).ext E114).wr W120 (.inr (Nat.le_trans (Nat.le_refl _) hb112))).ext E125).ext E152).wr W159 (.inr (Nat.le_trans (Nat.le_trans (Nat.le_trans (Below.size E114) (Nat.le_of_eq (Eq.symm (Wr.size W120)))) (Below.size E125)) hb150))).ext E175).ext E185).ext E194)) (by omega) (by first | omega | omega))) ?_; rintro _ w203 ⟨K204, rfl, hM205⟩
  have X206 := Below.kl X197 K204 (fun c hc => Nat.le_trans (Below.size (Below.wr (Ext.gr (Ext.gr (Ext.gr (Ext.gr (Ext.gr (Ext.refl _) E18) E24) E34) E56) E78) W83 g81)) (hw110.1 c hc).1) (Nat.le_refl _)
  show wpList _ _ _ _ (fr [_, _, _, _, _, _, _, _, _, _, _, _, _, _, _, _, _, _, _, _, _, _, _, _, _, _, _, _, _, _, _, _, _, _, _, _, _, _, _, _, _, _, _, _, _, _, _, _, _, _, _, _, _, _, _, _, _, _, _, _, _, _, _, _, _, _, _, _, _, _, _, _, _, _, _, _, _, _, _, _, _, _, _, _, _, _, _, _, _, _, _, _, _, _, _, _, _, _, _, _, _]) _
  refine q_is rfl rfl (does_assign (u := (Iv (1 + (A_g.vals.length : Int) * 1))) (ev rfl)) (by dsimp only [List.set]; try rfl) ?_
  refine wpList_nil (hK202 _ _ ?_)
  refine wp_seq_k fun K209 hK209 => ?_
  refine wp_seq_k fun K210 hK210 => ?_
  obtain ⟨β3, hβ3⟩ : ∃ b : Bool, b = (icmp .lss (1 + (A_g.vals.length : Int) * 1) 0) := ⟨_, rfl⟩
  obtain ⟨β4, hβ4⟩ : ∃ b : Bool, b = (sameG (swpR A_g n_) (swpR A_g n_)) := ⟨_, rfl⟩
  obtain ⟨β5, hβ5⟩ : ∃ b : Bool, b = ((swpOk A_g n_) != (swpOk A_g n_)) := ⟨_, rfl⟩
  refine region_text (
    [Fact.pure [] (fun v => v = (Iv (1 + (A_g.vals.length : Int) * 1))),
    Fact.pure [53] (fun v => v = (Bo β3)),
    Fact.pure [54] (fun v => v = (Bo β3)),
    Fact.pure [55] (fun v => β3 = false → v = (.agg #[(Fl r135), (Fl r137), (Fl r139), (Fl r141), (Iv ((swpR A_g n_).x)), (Iv ((swpR A_g n_).y)), (Iv ((swpR A_g n_).z)), (.slice p145 (((swpR A_g n_).vals).length) q146)])),
    Fact.pure [55] (fun v => β3 = false → v = (.agg #[(Fl r62), (Fl r64), (Fl r66), (Fl r68), (Iv ((swpR A_g n_).x)), (Iv ((swpR A_g n_).y)), (Iv ((swpR A_g n_).z)), (.slice p72 (((swpR A_g n_).vals).length) q73)])),
    Fact.pure [56, 57, 55] (fun v => β3 = false → v = (Bo β4)),
    Fact.pure [58, 55] (fun v => β3 = false → v = (Bo (!β4))),
    Fact.pure [55, 59] (fun v => v = (Bo (β3 || (!β4)))),
    Fact.pure [60] (fun v => v = (Bo (β3 || (!β4)))),
    Fact.pure [61] (fun v => (β3 || (!β4)) = false → v = (Bo (swpOk A_g n_))),
    Fact.pure [61] (fun v => (β3 || (!β4)) = false → v = (Bo (swpOk A_g n_))),
    Fact.pure [62, 63, 61] (fun v => (β3 || (!β4)) = false → v = (Bo β5)),
    Fact.pure [61, 64] (fun v => v = (Bo ((β3 || (!β4)) || β5)))]) (by simp [Fact.pure, Fact.mem]) ?_
  refine RW_d _ rfl (fun v => by dsimp only [List.set]; try rfl) (fun u hu hF => ?_) (fun v211 => ?_)
  · clear hF
    refine doesG_un rfl ?_
    refine (does_move (u := (Iv (1 + (A_g.vals.length : Int) * 1))) (ev rfl)).mono ?_; rintro _ _ ⟨rfl, rfl⟩
    exact ⟨rfl, Ext.refl _⟩
  refine RW_d _ rfl (fun v => by dsimp only [List.set]; try rfl) (fun u hu hF => ?_) (fun v212 => ?_)
  · have h53_ : v211 = (Iv (1 + (A_g.vals.length : Int) * 1)) := hF.1
    clear hF
    refine doesG_un rfl ?_
    obtain rfl := h53_
    refine (does_icmp (p := 1 + (A_g.vals.length : Int) * 1) (q := 0) (.inr (.inr (.inl rfl))) (ev rfl) (ev rfl)).mono ?_; rintro _ _ ⟨rfl, rfl⟩
    exact ⟨(by first | rfl | (show _ = _; simp only [hβ3]; done) | (show _ = _; simp only [hβ3]; rfl)), Ext.refl _⟩
  refine RW_d _ rfl (fun v => by dsimp only [List.set]; try rfl) (fun u hu hF => ?_) (fun v213 => ?_)
  · have h54_ : v212 = (Bo β3) := hF.1
    clear hF
    refine doesG_un rfl ?_
    obtain rfl := h54_
    refine (does_move (u := (Bo β3)) (ev rfl)).mono ?_; rintro _ _ ⟨rfl, rfl⟩
    exact ⟨rfl, Ext.refl _⟩
  refine RW_d _ rfl (fun v => by dsimp only [List.set]; try rfl) (fun u hu hF => ?_) (fun v214 => ?_)
  · have h55_ : v213 = (Bo β3) := hF.1
    clear hF
    obtain rfl := h55_
    refine doesG_g (b := β3) rfl (yld rfl rfl) (fun hg1 => ?_) (fun hc => ⟨fun hg1 => absurd hg1 hc, Ext.refl _⟩)
    refine (does_loadAgg (cs := [(Fl r135), (Fl r137), (Fl r139), (Fl r141), (Iv ((swpR A_g n_).x)), (Iv ((swpR A_g n_).y)), (Iv ((swpR A_g n_).z)), (.slice p145 (((swpR A_g n_).vals).length) q146)]) (ev rfl) Try.isAgg31 Try.sizeOf31 (Blk.cells (((((hB160.ext E175).ext E185).ext E194).kl K204 (fun hc => absurd (Nat.lt_of_lt_of_le (hw110.1 _ hc).2 (Nat.le_trans (Nat.le_trans (Nat.le_trans (Below.size E114) (Nat.le_of_eq (Eq.symm (Wr.size W120)))) (Below.size E125)) hb150)) (Nat.lt_irrefl _))).ext hu)) rfl).mono ?_; rintro _ _ ⟨rfl, rfl⟩
    exact ⟨fun _ => rfl, Ext.refl _⟩
  refine RW_d _ rfl (fun v => by dsimp only [List.set]; try rfl) (fun u hu hF => ?_) (fun v215 => ?_)
  · have h55_ : v213 = (Bo β3) := hF.1
    clear hF
    obtain rfl := h55_
    refine doesG_g (b := β3) rfl (yld rfl rfl) (fun hg1 => ?_) (fun hc => ⟨fun hg1 => absurd hg1 hc, Ext.refl _⟩)
    refine (does_loadAgg (cs := [(Fl r62), (Fl r64), (Fl r66), (Fl r68), (Iv ((swpR A_g n_).x)), (Iv ((swpR A_g n_).y)), (Iv ((swpR A_g n_).z)), (.slice p72 (((swpR A_g n_).vals).length) q73)]) (ev rfl) Try.isAgg31 Try.sizeOf31 (Blk.cells (((((((((((hB84.ext E88).ext E114).wr W120 (Nat.ne_of_lt n117)).ext E125).ext E152).wr W159 (Nat.ne_of_lt n155)).ext E175).ext E185).ext E194).kl K204 (fun hc => absurd (hw110.1 _ hc).1 (Nat.not_le_of_lt n96))).ext hu)) rfl).mono ?_; rintro _ _ ⟨rfl, rfl⟩
    exact ⟨fun _ => rfl, Ext.refl _⟩
  refine RW_d _ rfl (fun v => by dsimp only [List.set]; try rfl) (fun u hu hF => ?_) (fun v216 => ?_)
  · have h56_ : β3 = false → v214 = (.agg #[(Fl r135), (Fl r137), (Fl r139), (Fl r141), (Iv ((swpR A_g n_).x)), (Iv ((swpR A_g n_).y)), (Iv ((swpR A_g n_).z)), (.slice p145 (((swpR A_g n_).vals).length) q146)]) := hF.1
    have h57_ : β3 = false → v215 = (.agg #[(Fl r62), (Fl r64), (Fl r66), (Fl r68), (Iv ((swpR A_g n_).x)), (Iv ((swpR A_g n_).y)), (Iv ((swpR A_g n_).z)), (.slice p72 (((swpR A_g n_).vals).length) q73)]) := hF.2.1
    have h55_ : v213 = (Bo β3) := hF.2.2.1
    clear hF
    obtain rfl := h55_
    refine doesG_g (b := β3) rfl (yld rfl rfl) (fun hg1 => ?_) (fun hc => ⟨fun hg1 => absurd hg1 hc, Ext.refl _⟩)
    obtain rfl := h56_ hg1
    obtain rfl := h57_ hg1
    refine (does_call (args := #[(.agg #[(Fl r135), (Fl r137), (Fl r139), (Fl r141), (Iv ((swpR A_g n_).x)), (Iv ((swpR A_g n_).y)), (Iv ((swpR A_g n_).z)), (.slice p145 (((swpR A_g n_).vals).length) q146)]), (.agg #[(Fl r62), (Fl r64), (Fl r66), (Fl r68), (Iv ((swpR A_g n_).x)), (Iv ((swpR A_g n_).y)), (Iv ((swpR A_g n_).z)), (.slice p72 (((swpR A_g n_).vals).length) q73)])]) cal11 (evs rfl) (c_laws_eqGrid [(Fl r135), (Fl r137), (Fl r139), (Fl r141), (Iv ((swpR A_g n_).x)), (Iv ((swpR A_g n_).y)), (Iv ((swpR A_g n_).z)), (.slice p145 (((swpR A_g n_).vals).length) q146)] (swpR A_g n_) [(Fl r62), (Fl r64), (Fl r66), (Fl r68), (Iv ((swpR A_g n_).x)), (Iv ((swpR A_g n_).y)), (Iv ((swpR A_g n_).z)), (.slice p72 (((swpR A_g n_).vals).length) q73)] (swpR A_g n_) _ ⟨r135, r137, r139, r141, (.slice p145 (((swpR A_g n_).vals).length) q146), rfl, h136, h138, h140, h142, (Sl.ext (hh147 _ (((((((Same.refl _ _).ext E152).wr W159 (.inr (Nat.le_trans (Nat.le_refl _) hb150))).ext E175).ext E185).ext E194).kl K204 (fun c hc => .inl (Nat.lt_of_lt_of_le (hw110.1 c hc).2 (Nat.le_trans (Below.size E114) (Nat.le_of_eq (Eq.symm (Wr.size W120)))))))) RF.mono hu)⟩ ⟨r62, r64, r66, r68, (.slice p72 (((swpR A_g n_).vals).length) q73), rfl, h63, h65, h67, h69, (Sl.ext (hh74 _ (((((((((((((Same.refl _ _).ext E78).wr W83 (.inr (Nat.le_trans (Nat.le_refl _) hb76))).ext E88).ext E114).wr W120 (.inr (Nat.le_trans (Nat.le_trans (Nat.le_trans (Below.size E78) (Nat.le_of_eq (Eq.symm (Wr.size W83)))) (Below.size E88)) hb112))).ext E125).ext E152).wr W159 (.inr (Nat.le_trans (Nat.le_trans (Nat.le_trans (Nat.le_trans (Nat.le_trans (Nat.le_trans (Below.size E78) (Nat.le_of_eq (Eq.symm (Wr.size W83)))) (Below.size E88)) (Below.size E114)) (Nat.le_of_eq (Eq.symm (Wr.size W120)))) (Below.size E125)) hb150))).ext E175).ext E185).ext E194).kl K204 (fun c hc => .inr (Nat.le_trans (Nat.le_trans (Below.size E78) (Nat.le_of_eq (Eq.symm (Wr.size W83)))) (hw110.1 c hc).1)))) RF.mono hu)⟩)).mono ?_; rintro v u' ⟨hx, hv⟩
    exact ⟨fun _ => hv.trans (by simp only [hβ4]), hx⟩
  refine RW_d _ rfl (fun v => by dsimp only [List.set]; try rfl) (fun u hu hF => ?_) (fun v217 => ?_)
  · have h58_ : β3 = false → v216 = (Bo β4) := hF.1
    have h55_ : v213 = (Bo β3) := hF.2.1
    clear hF
    obtain rfl := h55_
    refine doesG_g (b := β3) rfl (yld rfl rfl) (fun hg1 => ?_) (fun hc => ⟨fun hg1 => absurd hg1 hc, Ext.refl _⟩)
    obtain rfl := h58_ hg1
    refine (does_not (ev rfl)).mono ?_; rintro _ _ ⟨rfl, rfl⟩
    exact ⟨fun _ => rfl, Ext.refl _⟩
  refine RW_d _ rfl (fun v => by dsimp only [List.set]; try rfl) (fun u hu hF => ?_) (fun v218 => ?_)
  · have h55_ : v213 = (Bo β3) := hF.1
    have h59_ : β3 = false → v217 = (Bo (!β4)) := hF.2.1
    clear hF
    refine doesG_un rfl ?_
    skip
    obtain rfl := h55_
    refine (does_pick (b := β3) (ev rfl) (ev rfl) (ev rfl)).mono ?_; rintro _ _ ⟨rfl, rfl⟩; refine ⟨?_, Ext.refl _⟩; skip
    cases hbb : β3
    all_goals first | rfl | (have e_ := h59_ hbb; subst e_; rfl) | (simp [hbb] at h59_ ⊢; first | done | rfl | (subst h59_; rfl) | simp_all) | (simp [hbb] at h59_ ⊢; done)
  refine RW_d _ rfl (fun v => by dsimp only [List.set]; try rfl) (fun u hu hF => ?_) (fun v219 => ?_)
  · have h60_ : v218 = (Bo (β3 || (!β4))) := hF.1
    clear hF
    refine doesG_un rfl ?_
    obtain rfl := h60_
    refine (does_move (u := (Bo (β3 || (!β4)))) (ev rfl)).mono ?_; rintro _ _ ⟨rfl, rfl⟩
    exact ⟨rfl, Ext.refl _⟩
  refine RW_d _ rfl (fun v => by dsimp only [List.set]; try rfl) (fun u hu hF => ?_) (fun v220 => ?_)
  · have h61_ : v219 = (Bo (β3 || (!β4))) := hF.1
    clear hF
    obtain rfl := h61_
    refine doesG_g (b := (β3 || (!β4))) rfl (yld rfl rfl) (fun hg1 => ?_) (fun hc => ⟨fun hg1 => absurd hg1 hc, Ext.refl _⟩)
    refine (does_move (u := (Bo (swpOk A_g n_))) (ev rfl)).mono ?_; rintro _ _ ⟨rfl, rfl⟩
    exact ⟨fun _ => rfl, Ext.refl _⟩
  refine RW_d _ rfl (fun v => by dsimp only [List.set]; try rfl) (fun u hu hF => ?_) (fun v221 => ?_)
  · have h61_ : v219 = (Bo (β3 || (!β4))) := hF.1
    clear hF
    obtain rfl := h61_
    refine doesG_g (b := (β3 || (!β4))) rfl (yld rfl rfl) (fun hg1 => ?_) (fun hc => ⟨fun hg1 => absurd hg1 hc, Ext.refl _⟩)
    refine (does_move (u := (Bo (swpOk A_g n_))) (ev rfl)).mono ?_; rintro _ _ ⟨rfl, rfl⟩
    exact ⟨fun _ => rfl, Ext.refl _⟩
  refine RW_d _ rfl (fun v => by dsimp only [List.set]; try rfl) (fun u hu hF => ?_) (fun v222 => ?_)
  · have h62_ : (β3 || (!β4)) = false → v220 = (Bo (swpOk A_g n_)) := hF.1
    have h63_ : (β3 || (!β4)) = false → v221 = (Bo (swpOk A_g n_)) := hF.2.1
    have h61_ : v219 = (Bo (β3 || (!β4))) := hF.2.2.1
    clear hF
    obtain rfl := h61_
    refine doesG_g (b := (β3 || (!β4))) rfl (yld rfl rfl) (fun hg1 => ?_) (fun hc => ⟨fun hg1 => absurd hg1 hc, Ext.refl _⟩)
    obtain rfl := h62_ hg1
    obtain rfl := h63_ hg1
    refine (does_bne (p := (swpOk A_g n_)) (q := (swpOk A_g n_)) Try.underlying4 (ev rfl) (ev rfl)).mono ?_; rintro _ _ ⟨rfl, rfl⟩
    exact ⟨fun _ => (by first | rfl | (show _ = _; simp only [hβ5]; done) | (show _ = _; simp only [hβ5]; rfl)), Ext.refl _⟩
  refine RW_d _ rfl (fun v => by dsimp only [List.set]; try rfl) (fun u hu hF => ?_) (fun v223 => ?_)
  · have h61_ : v219 = (Bo (β3 || (!β4))) := hF.1
    have h64_ : (β3 || (!β4)) = false → v222 = (Bo β5) := hF.2.1
    clear hF
    refine doesG_un rfl ?_
    skip
    obtain rfl := h61_
    refine (does_pick (b := (β3 || (!β4))) (ev rfl) (ev rfl) (ev rfl)).mono ?_; rintro _ _ ⟨rfl, rfl⟩; refine ⟨?_, Ext.refl _⟩; skip
    cases hbb : (β3 || (!β4))
    all_goals first | rfl | (have e_ := h64_ hbb; subst e_; rfl) | (simp [hbb] at h64_ ⊢; first | done | rfl | (subst h64_; rfl) | simp_all) | (simp [hbb] at h64_ ⊢; done)
  refine RW_fin ?_; intro w224 E225 hP226
  obtain ⟨⟨⟨⟨⟨⟨⟨⟨⟨⟨⟨⟨⟨-, -⟩, -⟩, -⟩, -⟩, -⟩, -⟩, -⟩, -⟩, -⟩, -⟩, -⟩, -⟩, q227⟩ := hP226
  have X228 := Ext.gr X206 E225
  have q227 : v223 = (Bo ((β3 || (!β4)) || β5)) := q227
  obtain rfl := q227
  show wpList _ _ _ _ (fr [_, _, _, _, _, _, _, _, _, _, _, _, _, _, _, _, _, _, _, _, _, _, _, _, _, _, _, _, _, _, _, _, _, _, _, _, _, _, _, _, _, _, _, _, _, _, _, _, _, _, _, _, _, _, _, _, _, _, _, _, _, _, _, _, _, _, _, _, _, _, _, _, _, _, _, _, _, _, _, _, _, _, _, _, _, _, _, _, _, _, _, _, _, _, _, _, _, _, _, _, _]) _
  refine wpList_nil (hK210 _ _ ?_)
  refine wp_cond_split (t := (β3 || (!β4)) || β5) (ev rfl) (fun c229 => ?_) (fun c229 => ?_)
  · have c229' := c229
    (try simp only [hβ1, hβ2, hβ3, hβ4, hβ5, sameG_self, bne_self_eq_false] at c229')
    (try simp only [hβ1, hβ2, hβ3, hβ4, hβ5] at c229')
    (try simp only [icmp, Bool.and_eq_true, Bool.or_eq_true, Bool.and_eq_false_iff, Bool.or_eq_false_iff, Bool.not_eq_true', Bool.not_eq_false', decide_eq_true_eq, decide_eq_false_iff_not, beq_iff_eq, bne_iff_ne, beq_eq_false_iff_ne, bne_eq_false_iff_eq] at c229')
    refine wp_seq_k fun K230 hK230 => ?_
    refine wp_region_lit ?_
    refine q_is rfl rfl (does_assign (u := (Bo false)) (ev rfl)) (by dsimp only [List.set]; try rfl) ?_
    refine wpList_nil (hK230 _ _ ?_)
    refine wp_ret ?_
    dsimp only [Exit.then, Exit.inBlock]
    refine ret_val (v := (Bo false)) (res_T rfl (slot rfl)) X228 ?_
    try simp only [h2, h4, h6, h8, h43, h45, h47, h49, h63, h65, h67, h69, h98, h100, h102, h104, h136, h138, h140, h142, hβ1, hβ2, hβ3, hβ4, hβ5, sameG_self, bne_self_eq_false] at c31 c179 c198 c229
    have x231 : true = false := by first | with_reducible rfl | (exfalso; omega) | (exfalso; simp only [mkL_len] at * <;> omega) | (exfalso; rcases c229' with (hh | hh) | hh <;> first | omega | (exact Bool.noConfusion hh)) | (exfalso; rcases c229' with hh | hh <;> first | omega | (exact Bool.noConfusion hh)) | (simp only [sameG_self, bne_self_eq_false, h2, h4, h6, h8, h43, h45, h47, h49, h63, h65, h67, h69, h98, h100, h102, h104, h136, h138, h140, h142, hβ1, hβ2, hβ3, hβ4, hβ5, c31, c179, c198, c229]; done) | (simp [sameG_self, bne_self_eq_false, h2, h4, h6, h8, h43, h45, h47, h49, h63, h65, h67, h69, h98, h100, h102, h104, h136, h138, h140, h142, hβ1, hβ2, hβ3, hβ4, hβ5, c31, c179, c198, c229]; done) | (simp_all; done) | (exfalso; simp_all; done)
    exact (by first | rfl | rw [x231])
  have c229' := c229
  (try simp only [hβ1, hβ2, hβ3, hβ4, hβ5, sameG_self, bne_self_eq_false] at c229')
  (try simp only [hβ1, hβ2, hβ3, hβ4, hβ5] at c229')
  (try simp only [icmp, Bool.and_eq_true, Bool.or_eq_true, Bool.and_eq_false_iff, Bool.or_eq_false_iff, Bool.not_eq_true', Bool.not_eq_false', decide_eq_true_eq, decide_eq_false_iff_not, beq_iff_eq, bne_iff_ne, beq_eq_false_iff_ne, bne_eq_false_iff_eq] at c229')
  refine wp_skip (hK209 _ _ ?_)
  refine wp_seq_k fun K232 hK232 => ?_
  refine wp_region_lit ?_
  refine q_is rfl rfl (does_assign (u := (Iv 1)) (ev rfl)) (by dsimp only [List.set]; try rfl) ?_
  refine wpList_nil (hK232 _ _ ?_)
  refine wp_seq_k fun K233 hK233 => ?_
  refine wp_region_lit ?_
  refine q_is rfl rfl (does_loadAgg (cs := [(Fl r135), (Fl r137), (Fl r139), (Fl r141), (Iv ((swpR A_g n_).x)), (Iv ((swpR A_g n_).y)), (Iv ((swpR A_g n_).z)), (.slice p145 (((swpR A_g n_).vals).length) q146)]) (ev rfl) Try.isAgg31 Try.sizeOf31 (Blk.cells (((((hB160.ext E175).ext E185).ext E194).kl K204 (fun hc => absurd (Nat.lt_of_lt_of_le (hw110.1 _ hc).2 (Nat.le_trans (Nat.le_trans (Nat.le_trans (Below.size E114) (Nat.le_of_eq (Eq.symm (Wr.size W120)))) (Below.size E125)) hb150)) (Nat.lt_irrefl _))).ext E225)) rfl) (by dsimp only [List.set]; try rfl) ?_
  refine q_is rfl rfl (does_move (u := (Iv 1)) (ev rfl)) (by dsimp only [List.set]; try rfl) ?_
  refine seqd rfl rfl (does_callK (args := #[(.agg #[(Fl r135), (Fl r137), (Fl r139), (Fl r141), (Iv ((swpR A_g n_).x)), (Iv ((swpR A_g n_).y)), (Iv ((swpR A_g n_).z)), (.slice p145 (((swpR A_g n_).vals).length) q146)]), (Iv 1)]) cal12 (evs rfl) (c_laws_markGrid (Fl r135) (Fl r137) (Fl r139) (Fl r141) (Iv ((swpR A_g n_).x)) (Iv ((swpR A_g n_).y)) (Iv ((swpR A_g n_).z)) (.slice p145 (((swpR A_g n_).vals).length) q146) ((swpR A_g n_).vals).length Lw129 w122.heap.size 1 _ (hw148.same ((((((((Same.refl _ _).ext E152).wr W159 (.inr (Nat.le_trans (Nat.le_refl _) hb150))).ext E175).ext E185).ext E194).kl K204 (fun c hc => .inl (Nat.lt_of_lt_of_le (hw110.1 c hc).2 (Nat.le_trans (Below.size E114) (Nat.le_of_eq (Eq.symm (Wr.size W120))))))).ext E225)) (by omega) (by first | omega | omega))) ?_; rintro _ w234 ⟨K235, rfl, hM236⟩
  have X237 := Below.kl X228 K235 (fun c hc => Nat.le_trans (Below.size (Below.wr (Ext.gr (Ext.gr (Below.wr (Ext.gr (Ext.gr (Ext.gr (Ext.gr (Ext.gr (Ext.refl _) E18) E24) E34) E56) E78) W83 g81) E88) E114) W120 g118)) (hw148.1 c hc).1) (Nat.le_refl _)
  show wpList _ _ _ _ (fr [_, _, _, _, _, _, _, _, _, _, _, _, _, _, _, _, _, _, _, _, _, _, _, _, _, _, _, _, _, _, _, _, _, _, _, _, _, _, _, _, _, _, _, _, _, _, _, _, _, _, _, _, _, _, _, _, _, _, _, _, _, _, _, _, _, _, _, _, _, _, _, _, _, _, _, _, _, _, _, _, _, _, _, _, _, _, _, _, _, _, _, _, _, _, _, _, _, _, _, _, _]) _
  refine q_is rfl rfl (does_assign (u := (Iv (1 + (((swpR A_g n_).vals).length : Int) * 1))) (ev rfl)) (by dsimp only [List.set]; try rfl) ?_
  refine wpList_nil (hK233 _ _ ?_)
  refine wp_seq_k fun K240 hK240 => ?_
  refine wp_region_lit ?_
  refine q_is rfl rfl (does_assign (u := (Iv 1)) (ev rfl)) (by dsimp only [List.set]; try rfl) ?_
  refine wpList_nil (hK240 _ _ ?_)
  refine wp_seq_k fun K241 hK241 => ?_
  refine wp_region_lit ?_
  refine q_is rfl rfl (does_loadAgg (cs := [(Fl r135), (Fl r137), (Fl r139), (Fl r141), (Iv ((swpR A_g n_).x)), (Iv ((swpR A_g n_).y)), (Iv ((swpR A_g n_).z)), (.slice p145 (((swpR A_g n_).vals).length) q146)]) (ev rfl) Try.isAgg31 Try.sizeOf31 (Blk.cells ((((((hB160.ext E175).ext E185).ext E194).kl K204 (fun hc => absurd (Nat.lt_of_lt_of_le (hw110.1 _ hc).2 (Nat.le_trans (Nat.le_trans (Nat.le_trans (Below.size E114) (Nat.le_of_eq (Eq.symm (Wr.size W120)))) (Below.size E125)) hb150)) (Nat.lt_irrefl _))).ext E225).kl K235 (fun hc => absurd (Nat.lt_of_lt_of_le (hw148.1 _ hc).2 (Nat.le_trans (Nat.le_refl _) hb150)) (Nat.lt_irrefl _)))) rfl) (by dsimp only [List.set]; try rfl) ?_
  refine q_is rfl rfl (does_move (u := (Iv 1)) (ev rfl)) (by dsimp only [List.set]; try rfl) ?_
  refine seqd rfl rfl (does_call (args := #[(.agg #[(Fl r135), (Fl r137), (Fl r139), (Fl r141), (Iv ((swpR A_g n_).x)), (Iv ((swpR A_g n_).y)), (Iv ((swpR A_g n_).z)), (.slice p145 (((swpR A_g n_).vals).length) q146)]), (Iv 1)]) cal13 (evs rfl) (c_laws_heldGrid [(Fl r135), (Fl r137), (Fl r139), (Fl r141), (Iv ((swpR A_g n_).x)), (Iv ((swpR A_g n_).y)), (Iv ((swpR A_g n_).z)), (.slice p145 (((swpR A_g n_).vals).length) q146)] (GridT.mk (swpR A_g n_).low ((swpR A_g n_).step) ((swpR A_g n_).x) ((swpR A_g n_).y) ((swpR A_g n_).z) (mkL fF 1 1 ((swpR A_g n_).vals).length)) 1 _ ⟨r135, r137, r139, r141, (.slice p145 (((swpR A_g n_).vals).length) q146), rfl, h136, h138, h140, h142, hM236.get⟩ (by exact mkL_eq) (by omega) (by (try dsimp only); rw [mkL_len]; omega))) ?_; rintro _ w243 ⟨E242, rfl⟩
  have X244 := Ext.gr X237 E242
  show wpList _ _ _ _ (fr [_, _, _, _, _, _, _, _, _, _, _, _, _, _, _, _, _, _, _, _, _, _, _, _, _, _, _, _, _, _, _, _, _, _, _, _, _, _, _, _, _, _, _, _, _, _, _, _, _, _, _, _, _, _, _, _, _, _, _, _, _, _, _, _, _, _, _, _, _, _, _, _, _, _, _, _, _, _, _, _, _, _, _, _, _, _, _, _, _, _, _, _, _, _, _, _, _, _, _, _, _]) _
  refine q_is rfl rfl (does_assign (u := (Iv (1 + ((mkL fF 1 1 ((swpR A_g n_).vals).length).length : Int) * 1))) (ev rfl)) (by dsimp only [List.set]; try rfl) ?_
  refine wpList_nil (hK241 _ _ ?_)
  refine wp_seq_k fun K245 hK245 => ?_
  refine wp_seq_k fun K246 hK246 => ?_
  refine wp_region_lit ?_
  refine q_is rfl rfl (does_move (u := (Iv (1 + ((mkL fF 1 1 ((swpR A_g n_).vals).length).length : Int) * 1))) (ev rfl)) (by dsimp only [List.set]; try rfl) ?_
  refine q_is rfl rfl (does_icmp (p := 1 + ((mkL fF 1 1 ((swpR A_g n_).vals).length).length : Int) * 1) (q := 0) (.inr (.inr (.inl rfl))) (ev rfl) (ev rfl)) (by dsimp only [List.set]; try rfl) ?_
  refine wpList_nil (hK246 _ _ ?_)
  refine wp_cond_split (t := icmp .lss (1 + ((mkL fF 1 1 ((swpR A_g n_).vals).length).length : Int) * 1) 0) (ev rfl) (fun c247 => ?_) (fun c247 => ?_)
  · have c247' := c247
    (try simp only [hβ1, hβ2, hβ3, hβ4, hβ5, sameG_self, bne_self_eq_false] at c247')
    (try simp only [hβ1, hβ2, hβ3, hβ4, hβ5] at c247')
    (try simp only [icmp, Bool.and_eq_true, Bool.or_eq_true, Bool.and_eq_false_iff, Bool.or_eq_false_iff, Bool.not_eq_true', Bool.not_eq_false', decide_eq_true_eq, decide_eq_false_iff_not, beq_iff_eq, bne_iff_ne, beq_eq_false_iff_ne, bne_eq_false_iff_eq] at c247')
    refine wp_seq_k fun K248 hK248 => ?_
    refine wp_region_lit ?_
    refine q_is rfl rfl (does_assign (u := (Bo false)) (ev rfl)) (by dsimp only [List.set]; try rfl) ?_
    refine wpList_nil (hK248 _ _ ?_)
    refine wp_ret ?_
    dsimp only [Exit.then, Exit.inBlock]
    refine ret_val (v := (Bo false)) (res_T rfl (slot rfl)) X244 ?_
    try simp only [h2, h4, h6, h8, h43, h45, h47, h49, h63, h65, h67, h69, h98, h100, h102, h104, h136, h138, h140, h142, hβ1, hβ2, hβ3, hβ4, hβ5, sameG_self, bne_self_eq_false] at c31 c179 c198 c229 c247
    have x249 : true = false := by first | with_reducible rfl | (exfalso; omega) | (exfalso; simp only [mkL_len] at * <;> omega) | (exfalso; rcases c247' with (hh | hh) | hh <;> first | omega | (exact Bool.noConfusion hh)) | (exfalso; rcases c247' with hh | hh <;> first | omega | (exact Bool.noConfusion hh)) | (simp only [sameG_self, bne_self_eq_false, h2, h4, h6, h8, h43, h45, h47, h49, h63, h65, h67, h69, h98, h100, h102, h104, h136, h138, h140, h142, hβ1, hβ2, hβ3, hβ4, hβ5, c31, c179, c198, c229, c247]; done) | (simp [sameG_self, bne_self_eq_false, h2, h4, h6, h8, h43, h45, h47, h49, h63, h65, h67, h69, h98, h100, h102, h104, h136, h138, h140, h142, hβ1, hβ2, hβ3, hβ4, hβ5, c31, c179, c198, c229, c247]; done) | (simp_all; done) | (exfalso; simp_all; done)
    exact (by first | rfl | rw [x249])
  have c247' := c247
  (try simp only [hβ1, hβ2, hβ3, hβ4, hβ5, sameG_self, bne_self_eq_false] at c247')
  (try simp only [hβ1, hβ2, hβ3, hβ4, hβ5] at c247')
  (try simp only [icmp, Bool.and_eq_true, Bool.or_eq_true, Bool.and_eq_false_iff, Bool.or_eq_false_iff, Bool.not_eq_true', Bool.not_eq_false', decide_eq_true_eq, decide_eq_false_iff_not, beq_iff_eq, bne_iff_ne, beq_eq_false_iff_ne, bne_eq_false_iff_eq] at c247')
  refine wp_skip (hK245 _ _ ?_)
  refine wp_seq_k fun K250 hK250 => ?_
  refine wp_seq_k fun K251 hK251 => ?_
  refine wp_region_lit ?_
  refine q_is rfl rfl (does_move (u := (Iv (1 + ((mkL fF 1 1 ((swpR A_g n_).vals).length).length : Int) * 1))) (ev rfl)) (by dsimp only [List.set]; try rfl) ?_
  refine q_is rfl rfl (does_move (u := (Iv (1 + (((swpR A_g n_).vals).length : Int) * 1))) (ev rfl)) (by dsimp only [List.set]; try rfl) ?_
  refine q_is rfl rfl (does_icmp (p := 1 + ((mkL fF 1 1 ((swpR A_g n_).vals).length).length : Int) * 1) (q := 1 + (((swpR A_g n_).vals).length : Int) * 1) (.inr (.inl rfl)) (ev rfl) (ev rfl)) (by dsimp only [List.set]; try rfl) ?_
  refine wpList_nil (hK251 _ _ ?_)
  refine wp_cond_split (t := icmp .neq (1 + ((mkL fF 1 1 ((swpR A_g n_).vals).length).length : Int) * 1) (1 + (((swpR A_g n_).vals).length : Int) * 1)) (ev rfl) (fun c252 => ?_) (fun c252 => ?_)
  · have c252' := c252
    (try simp only [hβ1, hβ2, hβ3, hβ4, hβ5, sameG_self, bne_self_eq_false] at c252')
    (try simp only [hβ1, hβ2, hβ3, hβ4, hβ5] at c252')
    (try simp only [icmp, Bool.and_eq_true, Bool.or_eq_true, Bool.and_eq_false_iff, Bool.or_eq_false_iff, Bool.not_eq_true', Bool.not_eq_false', decide_eq_true_eq, decide_eq_false_iff_not, beq_iff_eq, bne_iff_ne, beq_eq_false_iff_ne, bne_eq_false_iff_eq] at c252')
    refine wp_seq_k fun K253 hK253 => ?_
    refine wp_region_lit ?_
    refine q_is rfl rfl (does_assign (u := (Bo false)) (ev rfl)) (by dsimp only [List.set]; try rfl) ?_
    refine wpList_nil (hK253 _ _ ?_)
    refine wp_ret ?_
    dsimp only [Exit.then, Exit.inBlock]
    refine ret_val (v := (Bo false)) (res_T rfl (slot rfl)) X244 ?_
    try simp only [h2, h4, h6, h8, h43, h45, h47, h49, h63, h65, h67, h69, h98, h100, h102, h104, h136, h138, h140, h142, hβ1, hβ2, hβ3, hβ4, hβ5, sameG_self, bne_self_eq_false] at c31 c179 c198 c229 c247 c252
    have x254 : true = false := by first | with_reducible rfl | (exfalso; omega) | (exfalso; simp only [mkL_len] at * <;> omega) | (exfalso; rcases c252' with (hh | hh) | hh <;> first | omega | (exact Bool.noConfusion hh)) | (exfalso; rcases c252' with hh | hh <;> first | omega | (exact Bool.noConfusion hh)) | (simp only [sameG_self, bne_self_eq_false, h2, h4, h6, h8, h43, h45, h47, h49, h63, h65, h67, h69, h98, h100, h102, h104, h136, h138, h140, h142, hβ1, hβ2, hβ3, hβ4, hβ5, c31, c179, c198, c229, c247, c252]; done) | (simp [sameG_self, bne_self_eq_false, h2, h4, h6, h8, h43, h45, h47, h49, h63, h65, h67, h69, h98, h100, h102, h104, h136, h138, h140, h142, hβ1, hβ2, hβ3, hβ4, hβ5, c31, c179, c198, c229, c247, c252]; done) | (simp_all; done) | (exfalso; simp_all; done)
    exact (by first | rfl | rw [x254])
  have c252' := c252
  (try simp only [hβ1, hβ2, hβ3, hβ4, hβ5, sameG_self, bne_self_eq_false] at c252')
  (try simp only [hβ1, hβ2, hβ3, hβ4, hβ5] at c252')
  (try simp only [icmp, Bool.and_eq_true, Bool.or_eq_true, Bool.and_eq_false_iff, Bool.or_eq_false_iff, Bool.not_eq_true', Bool.not_eq_false', decide_eq_true_eq, decide_eq_false_iff_not, beq_iff_eq, bne_iff_ne, beq_eq_false_iff_ne, bne_eq_false_iff_eq] at c252')
  refine wp_skip (hK250 _ _ ?_)
  refine wp_seq_k fun K255 hK255 => ?_
  refine wp_region_lit ?_
  refine q_is rfl rfl (does_loadAgg (cs := [(Fl r1), (Fl r3), (Fl r5), (Fl r7), (Iv A_g.x), (Iv A_g.y), (Iv A_g.z), (.slice p11 A_g.vals.length q12)]) (ev rfl) Try.isAgg27 Try.sizeOf27 (Blk.cells ((((((((((((((((((hB17.ext E24).ext E34).ext E56).ext E78).wr W83 (Nat.ne_of_lt n80)).ext E88).ext E114).wr W120 (Nat.ne_of_lt n116)).ext E125).ext E152).wr W159 (Nat.ne_of_lt n154)).ext E175).ext E185).ext E194).kl K204 (fun hc => absurd (hw110.1 _ hc).1 (Nat.not_le_of_lt n95))).ext E225).kl K235 (fun hc => absurd (hw148.1 _ hc).1 (Nat.not_le_of_lt n132))).ext E242)) rfl) (by dsimp only [List.set]; try rfl) ?_
  refine seqd rfl rfl (does_call (args := #[(.agg #[(Fl r1), (Fl r3), (Fl r5), (Fl r7), (Iv A_g.x), (Iv A_g.y), (Iv A_g.z), (.slice p11 A_g.vals.length q12)])]) cal9 (evs rfl) (c_laws_toGrid [(Fl r1), (Fl r3), (Fl r5), (Fl r7), (Iv A_g.x), (Iv A_g.y), (Iv A_g.z), (.slice p11 A_g.vals.length q12)] A_g _ ⟨r1, r3, r5, r7, (.slice p11 A_g.vals.length q12), rfl, h2, h4, h6, h8, (Sl.ext hs13 RF.mono X244)⟩ (by omega))) ?_; rintro _ w257 ⟨E256, ⟨cs259, Lw260, rfl, hh258, hw261⟩⟩
  have X262 := Ext.gr X244 E256
  have n263 : b15 < w243.heap.size := Blk.lt ((((((((((((((((((hB17.ext E24).ext E34).ext E56).ext E78).wr W83 (Nat.ne_of_lt n80)).ext E88).ext E114).wr W120 (Nat.ne_of_lt n116)).ext E125).ext E152).wr W159 (Nat.ne_of_lt n154)).ext E175).ext E185).ext E194).kl K204 (fun hc => absurd (hw110.1 _ hc).1 (Nat.not_le_of_lt n95))).ext E225).kl K235 (fun hc => absurd (hw148.1 _ hc).1 (Nat.not_le_of_lt n132))).ext E242)
  have n264 : b75 < w243.heap.size := Blk.lt (((((((((((((hB84.ext E88).ext E114).wr W120 (Nat.ne_of_lt n117)).ext E125).ext E152).wr W159 (Nat.ne_of_lt n155)).ext E175).ext E185).ext E194).kl K204 (fun hc => absurd (hw110.1 _ hc).1 (Nat.not_le_of_lt n96))).ext E225).kl K235 (fun hc => absurd (hw148.1 _ hc).1 (Nat.not_le_of_lt n133))).ext E242)
  have n265 : b111 < w243.heap.size := Blk.lt ((((((((((hB121.ext E125).ext E152).wr W159 (Nat.ne_of_lt n156)).ext E175).ext E185).ext E194).kl K204 (fun hc => absurd (Nat.lt_of_lt_of_le (hw110.1 _ hc).2 (Nat.le_trans (Nat.le_refl _) hb112)) (Nat.lt_irrefl _))).ext E225).kl K235 (fun hc => absurd (hw148.1 _ hc).1 (Nat.not_le_of_lt n134))).ext E242)
  have n266 : b149 < w243.heap.size := Blk.lt (((((((hB160.ext E175).ext E185).ext E194).kl K204 (fun hc => absurd (Nat.lt_of_lt_of_le (hw110.1 _ hc).2 (Nat.le_trans (Nat.le_trans (Nat.le_trans (Below.size E114) (Nat.le_of_eq (Eq.symm (Wr.size W120)))) (Below.size E125)) hb150)) (Nat.lt_irrefl _))).ext E225).kl K235 (fun hc => absurd (Nat.lt_of_lt_of_le (hw148.1 _ hc).2 (Nat.le_trans (Nat.le_refl _) hb150)) (Nat.lt_irrefl _))).ext E242)
  obtain ⟨r267, r269, r271, r273, y275, rfl, h268, h270, h272, h274, h276⟩ := hh258.get
  have h276l := Sl.len h276; obtain ⟨p277, q278, rfl⟩ := Sl.shape h276
  have hh279 : Hang w243.heap.size w257 (fun u => Sl RF 1 u (.slice p277 A_g.vals.length q278) A_g.vals) := fun u hu => by obtain ⟨_, _, _, _, _, hq, _, _, _, _, _⟩ := hh258 u hu; cases hq; assumption
  have hw280 : WL 1 w243.heap.size w257 Lw260 (.slice p277 A_g.vals.length q278) A_g.vals.length := hw261
  show wpList _ _ _ _ (fr [_, _, _, _, _, _, _, _, _, _, _, _, _, _, _, _, _, _, _, _, _, _, _, _, _, _, _, _, _, _, _, _, _, _, _, _, _, _, _, _, _, _, _, _, _, _, _, _, _, _, _, _, _, _, _, _, _, _, _, _, _, _, _, _, _, _, _, _, _, _, _, _, _, _, _, _, _, _, _, _, _, _, _, _, _, _, _, _, _, _, _, _, _, _, _, _, _, _, _, _, _]) _
  refine q_is rfl rfl (does_move (u := (Iv n_)) (ev rfl)) (by dsimp only [List.set]; try rfl) ?_
  refine seqd rfl rfl (does_call (args := #[(.agg #[(Fl r267), (Fl r269), (Fl r271), (Fl r273), (Iv A_g.x), (Iv A_g.y), (Iv A_g.z), (.slice p277 A_g.vals.length q278)]), (Iv n_)]) cal20 (evs rfl) (c_impl_SweepGrid [(Fl r267), (Fl r269), (Fl r271), (Fl r273), (Iv A_g.x), (Iv A_g.y), (Iv A_g.z), (.slice p277 A_g.vals.length q278)] A_g n_ _ ⟨r267, r269, r271, r273, (.slice p277 A_g.vals.length q278), rfl, h268, h270, h272, h274, hh279.get⟩)) ?_; rintro _ w282 ⟨E281, ⟨cs284, Lw285, rfl, hh283, hw286⟩⟩
  have X287 := Ext.gr X262 E281
  have n288 : b15 < w257.heap.size := Blk.lt (((((((((((((((((((hB17.ext E24).ext E34).ext E56).ext E78).wr W83 (Nat.ne_of_lt n80)).ext E88).ext E114).wr W120 (Nat.ne_of_lt n116)).ext E125).ext E152).wr W159 (Nat.ne_of_lt n154)).ext E175).ext E185).ext E194).kl K204 (fun hc => absurd (hw110.1 _ hc).1 (Nat.not_le_of_lt n95))).ext E225).kl K235 (fun hc => absurd (hw148.1 _ hc).1 (Nat.not_le_of_lt n132))).ext E242).ext E256)
  have n289 : b75 < w257.heap.size := Blk.lt ((((((((((((((hB84.ext E88).ext E114).wr W120 (Nat.ne_of_lt n117)).ext E125).ext E152).wr W159 (Nat.ne_of_lt n155)).ext E175).ext E185).ext E194).kl K204 (fun hc => absurd (hw110.1 _ hc).1 (Nat.not_le_of_lt n96))).ext E225).kl K235 (fun hc => absurd (hw148.1 _ hc).1 (Nat.not_le_of_lt n133))).ext E242).ext E256)
  have n290 : b111 < w257.heap.size := Blk.lt (((((((((((hB121.ext E125).ext E152).wr W159 (Nat.ne_of_lt n156)).ext E175).ext E185).ext E194).kl K204 (fun hc => absurd (Nat.lt_of_lt_of_le (hw110.1 _ hc).2 (Nat.le_trans (Nat.le_refl _) hb112)) (Nat.lt_irrefl _))).ext E225).kl K235 (fun hc => absurd (hw148.1 _ hc).1 (Nat.not_le_of_lt n134))).ext E242).ext E256)
  have n291 : b149 < w257.heap.size := Blk.lt ((((((((hB160.ext E175).ext E185).ext E194).kl K204 (fun hc => absurd (Nat.lt_of_lt_of_le (hw110.1 _ hc).2 (Nat.le_trans (Nat.le_trans (Nat.le_trans (Below.size E114) (Nat.le_of_eq (Eq.symm (Wr.size W120)))) (Below.size E125)) hb150)) (Nat.lt_irrefl _))).ext E225).kl K235 (fun hc => absurd (Nat.lt_of_lt_of_le (hw148.1 _ hc).2 (Nat.le_trans (Nat.le_refl _) hb150)) (Nat.lt_irrefl _))).ext E242).ext E256)
  obtain ⟨r292, r294, r296, r298, y300, rfl, h293, h295, h297, h299, h301⟩ := hh283.get
  have h301l := Sl.len h301; obtain ⟨p302, q303, rfl⟩ := Sl.shape h301
  have hh304 : Hang w257.heap.size w282 (fun u => Sl RF 1 u (.slice p302 (((swpR A_g n_).vals).length) q303) ((swpR A_g n_).vals)) := fun u hu => by obtain ⟨_, _, _, _, _, hq, _, _, _, _, _⟩ := hh283 u hu; cases hq; assumption
  have hw305 : WL 1 w257.heap.size w282 Lw285 (.slice p302 (((swpR A_g n_).vals).length) q303) ((swpR A_g n_).vals).length := hw286
  show wpList _ _ _ _ (fr [_, _, _, _, _, _, _, _, _, _, _, _, _, _, _, _, _, _, _, _, _, _, _, _, _, _, _, _, _, _, _, _, _, _, _, _, _, _, _, _, _, _, _, _, _, _, _, _, _, _, _, _, _, _, _, _, _, _, _, _, _, _, _, _, _, _, _, _, _, _, _, _, _, _, _, _, _, _, _, _, _, _, _, _, _, _, _, _, _, _, _, _, _, _, _, _, _, _, _, _, _]) _
  refine q_is rfl rfl (does_move (u := (.tuple #[(.agg #[(Fl r292), (Fl r294), (Fl r296), (Fl r298), (Iv ((swpR A_g n_).x)), (Iv ((swpR A_g n_).y)), (Iv ((swpR A_g n_).z)), (.slice p302 (((swpR A_g n_).vals).length) q303)]), (Bo (swpOk A_g n_))])) (ev rfl)) (by dsimp only [List.set]; try rfl) ?_
  refine q_is rfl rfl (does_extract (vs := #[(.agg #[(Fl r292), (Fl r294), (Fl r296), (Fl r298), (Iv ((swpR A_g n_).x)), (Iv ((swpR A_g n_).y)), (Iv ((swpR A_g n_).z)), (.slice p302 (((swpR A_g n_).vals).length) q303)]), (Bo (swpOk A_g n_))]) (u := (.agg #[(Fl r292), (Fl r294), (Fl r296), (Fl r298), (Iv ((swpR A_g n_).x)), (Iv ((swpR A_g n_).y)), (Iv ((swpR A_g n_).z)), (.slice p302 (((swpR A_g n_).vals).length) q303)])) (ev rfl) rfl) (by dsimp only [List.set]; try rfl) ?_
  refine q_is rfl rfl (does_extract (vs := #[(.agg #[(Fl r292), (Fl r294), (Fl r296), (Fl r298), (Iv ((swpR A_g n_).x)), (Iv ((swpR A_g n_).y)), (Iv ((swpR A_g n_).z)), (.slice p302 (((swpR A_g n_).vals).length) q303)]), (Bo (swpOk A_g n_))]) (u := (Bo (swpOk A_g n_))) (ev rfl) rfl) (by dsimp only [List.set]; try rfl) ?_
  refine seqd rfl rfl (does_alloc z31) ?_; rintro _ w310 ⟨b306, rfl, hb307, hB308, E309⟩
  have n311 : b15 < b306 := Nat.lt_of_lt_of_le (Blk.lt ((((((((((((((((((((hB17.ext E24).ext E34).ext E56).ext E78).wr W83 (Nat.ne_of_lt n80)).ext E88).ext E114).wr W120 (Nat.ne_of_lt n116)).ext E125).ext E152).wr W159 (Nat.ne_of_lt n154)).ext E175).ext E185).ext E194).kl K204 (fun hc => absurd (hw110.1 _ hc).1 (Nat.not_le_of_lt n95))).ext E225).kl K235 (fun hc => absurd (hw148.1 _ hc).1 (Nat.not_le_of_lt n132))).ext E242).ext E256).ext E281)) hb307
  have n312 : b75 < b306 := Nat.lt_of_lt_of_le (Blk.lt (((((((((((((((hB84.ext E88).ext E114).wr W120 (Nat.ne_of_lt n117)).ext E125).ext E152).wr W159 (Nat.ne_of_lt n155)).ext E175).ext E185).ext E194).kl K204 (fun hc => absurd (hw110.1 _ hc).1 (Nat.not_le_of_lt n96))).ext E225).kl K235 (fun hc => absurd (hw148.1 _ hc).1 (Nat.not_le_of_lt n133))).ext E242).ext E256).ext E281)) hb307
  have n313 : b111 < b306 := Nat.lt_of_lt_of_le (Blk.lt ((((((((((((hB121.ext E125).ext E152).wr W159 (Nat.ne_of_lt n156)).ext E175).ext E185).ext E194).kl K204 (fun hc => absurd (Nat.lt_of_lt_of_le (hw110.1 _ hc).2 (Nat.le_trans (Nat.le_refl _) hb112)) (Nat.lt_irrefl _))).ext E225).kl K235 (fun hc => absurd (hw148.1 _ hc).1 (Nat.not_le_of_lt n134))).ext E242).ext E256).ext E281)) hb307
  have n314 : b149 < b306 := Nat.lt_of_lt_of_le (Blk.lt (((((((((hB160.ext E175).ext E185).ext E194).kl K204 (fun hc => absurd (Nat.lt_of_lt_of_le (hw110.1 _ hc).2 (Nat.le_trans (Nat.le_trans (Nat.le_trans (Below.size E114) (Nat.le_of_eq (Eq.symm (Wr.size W120)))) (Below.size E125)) hb150)) (Nat.lt_irrefl _))).ext E225).kl K235 (fun hc => absurd (Nat.lt_of_lt_of_le (hw148.1 _ hc).2 (Nat.le_trans (Nat.le_refl _) hb150)) (Nat.lt_irrefl _))).ext E242).ext E256).ext E281)) hb307
  have g315 : w.heap.size ≤ b306 := Nat.le_trans (Below.size X287) hb307
  change Blk _ _ [(Fl 0), (Fl 0), (Fl 0), (Fl 0), (Iv 0), (Iv 0), (Iv 0), (.slice none 0 0)] at hB308
  have X316 := Ext.gr X287 E309
  show wpList _ _ _ _ (fr [_, _, _, _, _, _, _, _, _, _, _, _, _, _, _, _, _, _, _, _, _, _, _, _, _, _, _, _, _, _, _, _, _, _, _, _, _, _, _, _, _, _, _, _, _, _, _, _, _, _, _, _, _, _, _, _, _, _, _, _, _, _, _, _, _, _, _, _, _, _, _, _, _, _, _, _, _, _, _, _, _, _, _, _, _, _, _, _, _, _, _, _, _, _, _, _, _, _, _, _, _]) _
  refine seqn rfl rfl (does_store (n := 8) (cs := [(Fl 0), (Fl 0), (Fl 0), (Fl 0), (Iv 0), (Iv 0), (Iv 0), (.slice none 0 0)]) (u := (.agg #[(Fl r292), (Fl r294), (Fl r296), (Fl r298), (Iv ((swpR A_g n_).x)), (Iv ((swpR A_g n_).y)), (Iv ((swpR A_g n_).z)), (.slice p302 (((swpR A_g n_).vals).length) q303)])) (ev rfl) (ev rfl) Try.sizeOf31 rfl hB308 (Nat.le_of_ble_eq_true rfl) rfl) ?_; rintro _ w319 ⟨rfl, W317, hB318⟩
  change Blk _ _ [(Fl r292), (Fl r294), (Fl r296), (Fl r298), (Iv ((swpR A_g n_).x)), (Iv ((swpR A_g n_).y)), (Iv ((swpR A_g n_).z)), (.slice p302 (((swpR A_g n_).vals).length) q303)] at hB318
  have X320 := Below.wr X316 W317 g315
  refine q_is rfl rfl (does_assign (u := (Bo (swpOk A_g n_))) (ev rfl)) (by dsimp only [List.set]; try rfl) ?_
  refine wpList_nil (hK255 _ _ ?_)
  refine wp_seq_k fun K321 hK321 => ?_
  refine wp_seq_k fun K322 hK322 => ?_
  obtain ⟨β6, hβ6⟩ : ∃ b : Bool, b = (sameG (swpR A_g n_) (swpR A_g n_)) := ⟨_, rfl⟩
  obtain ⟨β7, hβ7⟩ : ∃ b : Bool, b = ((swpOk A_g n_) != (swpOk A_g n_)) := ⟨_, rfl⟩
  refine region_text (
    [Fact.pure [] (fun v => v = (.agg #[(Fl r292), (Fl r294), (Fl r296), (Fl r298), (Iv ((swpR A_g n_).x)), (Iv ((swpR A_g n_).y)), (Iv ((swpR A_g n_).z)), (.slice p302 (((swpR A_g n_).vals).length) q303)])),
    Fact.pure [] (fun v => v = (.agg #[(Fl r62), (Fl r64), (Fl r66), (Fl r68), (Iv ((swpR A_g n_).x)), (Iv ((swpR A_g n_).y)), (Iv ((swpR A_g n_).z)), (.slice p72 (((swpR A_g n_).vals).length) q73)])),
    Fact.pure [84, 85] (fun v => v = (Bo β6)),
    Fact.pure [86] (fun v => v = (Bo (!β6))),
    Fact.pure [87] (fun v => v = (Bo (!β6))),
    Fact.pure [88] (fun v => (!β6) = false → v = (Bo (swpOk A_g n_))),
    Fact.pure [88] (fun v => (!β6) = false → v = (Bo (swpOk A_g n_))),
    Fact.pure [89, 90, 88] (fun v => (!β6) = false → v = (Bo β7)),
    Fact.pure [88, 91] (fun v => v = (Bo ((!β6) || β7)))]) (by simp [Fact.pure, Fact.mem]) ?_
  refine RW_d _ rfl (fun v => by dsimp only [List.set]; try rfl) (fun u hu hF => ?_) (fun v323 => ?_)
  · clear hF
    refine doesG_un rfl ?_
    refine (does_loadAgg (cs := [(Fl r292), (Fl r294), (Fl r296), (Fl r298), (Iv ((swpR A_g n_).x)), (Iv ((swpR A_g n_).y)), (Iv ((swpR A_g n_).z)), (.slice p302 (((swpR A_g n_).vals).length) q303)]) (ev rfl) Try.isAgg31 Try.sizeOf31 (Blk.cells (hB318.ext hu)) rfl).mono ?_; rintro _ _ ⟨rfl, rfl⟩
    exact ⟨rfl, Ext.refl _⟩
  refine RW_d _ rfl (fun v => by dsimp only [List.set]; try rfl) (fun u hu hF => ?_) (fun v324 => ?_)
  · clear hF
    refine doesG_un rfl ?_
    refine (does_loadAgg (cs := [(Fl r62), (Fl r64), (Fl r66), (Fl r68), (Iv ((swpR A_g n_).x)), (Iv ((swpR A_g n_).y)), (Iv ((swpR A_g n_).z)), (.slice p72 (((swpR A_g n_).vals).length) q73)]) (ev rfl) Try.isAgg31 Try.sizeOf31 (Blk.cells ((((((((((((((((((hB84.ext E88).ext E114).wr W120 (Nat.ne_of_lt n117)).ext E125).ext E152).wr W159 (Nat.ne_of_lt n155)).ext E175).ext E185).ext E194).kl K204 (fun hc => absurd (hw110.1 _ hc).1 (Nat.not_le_of_lt n96))).ext E225).kl K235 (fun hc => absurd (hw148.1 _ hc).1 (Nat.not_le_of_lt n133))).ext E242).ext E256).ext E281).ext E309).wr W317 (Nat.ne_of_lt n312)).ext hu)) rfl).mono ?_; rintro _ _ ⟨rfl, rfl⟩
    exact ⟨rfl, Ext.refl _⟩
  refine RW_d _ rfl (fun v => by dsimp only [List.set]; try rfl) (fun u hu hF => ?_) (fun v325 => ?_)
  · have h84_ : v323 = (.agg #[(Fl r292), (Fl r294), (Fl r296), (Fl r298), (Iv ((swpR A_g n_).x)), (Iv ((swpR A_g n_).y)), (Iv ((swpR A_g n_).z)), (.slice p302 (((swpR A_g n_).vals).length) q303)]) := hF.1
    have h85_ : v324 = (.agg #[(Fl r62), (Fl r64), (Fl r66), (Fl r68), (Iv ((swpR A_g n_).x)), (Iv ((swpR A_g n_).y)), (Iv ((swpR A_g n_).z)), (.slice p72 (((swpR A_g n_).vals).length) q73)]) := hF.2.1
    clear hF
    refine doesG_un rfl ?_
    obtain rfl := h84_
    obtain rfl := h85_
    refine (does_call (args := #[(.agg #[(Fl r292), (Fl r294), (Fl r296), (Fl r298), (Iv ((swpR A_g n_).x)), (Iv ((swpR A_g n_).y)), (Iv ((swpR A_g n_).z)), (.slice p302 (((swpR A_g n_).vals).length) q303)]), (.agg #[(Fl r62), (Fl r64), (Fl r66), (Fl r68), (Iv ((swpR A_g n_).x)), (Iv ((swpR A_g n_).y)), (Iv ((swpR A_g n_).z)), (.slice p72 (((swpR A_g n_).vals).length) q73)])]) cal11 (evs rfl) (c_laws_eqGrid [(Fl r292), (Fl r294), (Fl r296), (Fl r298), (Iv ((swpR A_g n_).x)), (Iv ((swpR A_g n_).y)), (Iv ((swpR A_g n_).z)), (.slice p302 (((swpR A_g n_).vals).length) q303)] (swpR A_g n_) [(Fl r62), (Fl r64), (Fl r66), (Fl r68), (Iv ((swpR A_g n_).x)), (Iv ((swpR A_g n_).y)), (Iv ((swpR A_g n_).z)), (.slice p72 (((swpR A_g n_).vals).length) q73)] (swpR A_g n_) _ ⟨r292, r294, r296, r298, (.slice p302 (((swpR A_g n_).vals).length) q303), rfl, h293, h295, h297, h299, (Sl.ext (hh304 _ (((Same.refl _ _).ext E309).wr W317 (.inr (Nat.le_trans (Nat.le_refl _) hb307)))) RF.mono hu)⟩ ⟨r62, r64, r66, r68, (.slice p72 (((swpR A_g n_).vals).length) q73), rfl, h63, h65, h67, h69, (Sl.ext (hh74 _ ((((((((((((((((((((Same.refl _ _).ext E78).wr W83 (.inr (Nat.le_trans (Nat.le_refl _) hb76))).ext E88).ext E114).wr W120 (.inr (Nat.le_trans (Nat.le_trans (Nat.le_trans (Below.size E78) (Nat.le_of_eq (Eq.symm (Wr.size W83)))) (Below.size E88)) hb112))).ext E125).ext E152).wr W159 (.inr (Nat.le_trans (Nat.le_trans (Nat.le_trans (Nat.le_trans (Nat.le_trans (Nat.le_trans (Below.size E78) (Nat.le_of_eq (Eq.symm (Wr.size W83)))) (Below.size E88)) (Below.size E114)) (Nat.le_of_eq (Eq.symm (Wr.size W120)))) (Below.size E125)) hb150))).ext E175).ext E185).ext E194).kl K204 (fun c hc => .inr (Nat.le_trans (Nat.le_trans (Below.size E78) (Nat.le_of_eq (Eq.symm (Wr.size W83)))) (hw110.1 c hc).1))).ext E225).kl K235 (fun c hc => .inr (Nat.le_trans (Nat.le_trans (Nat.le_trans (Nat.le_trans (Nat.le_trans (Below.size E78) (Nat.le_of_eq (Eq.symm (Wr.size W83)))) (Below.size E88)) (Below.size E114)) (Nat.le_of_eq (Eq.symm (Wr.size W120)))) (hw148.1 c hc).1))).ext E242).ext E256).ext E281).ext E309).wr W317 (.inr (Nat.le_trans (Nat.le_trans (Nat.le_trans (Nat.le_trans (Nat.le_trans (Nat.le_trans (Nat.le_trans (Nat.le_trans (Nat.le_trans (Nat.le_trans (Nat.le_trans (Nat.le_trans (Nat.le_trans (Nat.le_trans (Nat.le_trans (Nat.le_trans (Nat.le_trans (Below.size E78) (Nat.le_of_eq (Eq.symm (Wr.size W83)))) (Below.size E88)) (Below.size E114)) (Nat.le_of_eq (Eq.symm (Wr.size W120)))) (Below.size E125)) (Below.size E152)) (Nat.le_of_eq (Eq.symm (Wr.size W159)))) (Below.size E175)) (Below.size E185)) (Below.size E194)) (KpL.size K204)) (Below.size E225)) (KpL.size K235)) (Below.size E242)) (Below.size E256)) (Below.size E281)) hb307)))) RF.mono hu)⟩)).mono ?_; rintro v u' ⟨hx, hv⟩
    exact ⟨hv.trans (by simp only [hβ6]), hx⟩
  refine RW_d _ rfl (fun v => by dsimp only [List.set]; try rfl) (fun u hu hF => ?_) (fun v326 => ?_)
  · have h86_ : v325 = (Bo β6) := hF.1
    clear hF
    refine doesG_un rfl ?_
    obtain rfl := h86_
    refine (does_not (ev rfl)).mono ?_; rintro _ _ ⟨rfl, rfl⟩
    exact ⟨rfl, Ext.refl _⟩
  refine RW_d _ rfl (fun v => by dsimp only [List.set]; try rfl) (fun u hu hF => ?_) (fun v327 => ?_)
  · have h87_ : v326 = (Bo (!β6)) := hF.1
    clear hF
    refine doesG_un rfl ?_
    obtain rfl := h87_
    refine (does_move (u := (Bo (!β6))) (ev rfl)).mono ?_; rintro _ _ ⟨rfl, rfl⟩
    exact ⟨rfl, Ext.refl _⟩
  refine RW_d _ rfl (fun v => by dsimp only [List.set]; try rfl) (fun u hu hF => ?_) (fun v328 => ?_)
  · have h88_ : v327 = (Bo (!β6)) := hF.1
    clear hF
    obtain rfl := h88_
    refine doesG_g (b := (!β6)) rfl (yld rfl rfl) (fun hg1 => ?_) (fun hc => ⟨fun hg1 => absurd hg1 hc, Ext.refl _⟩)
    refine (does_move (u := (Bo (swpOk A_g n_))) (ev rfl)).mono ?_; rintro _ _ ⟨rfl, rfl⟩
    exact ⟨fun _ => rfl, Ext.refl _⟩
  refine RW_d _ rfl (fun v => by dsimp only [List.set]; try rfl) (fun u hu hF => ?_) (fun v329 => ?_)
  · have h88_ : v327 = (Bo (!β6)) := hF.1
    clear hF
    obtain rfl := h88_
    refine doesG_g (b := (!β6)) rfl (yld rfl rfl) (fun hg1 => ?_) (fun hc => ⟨fun hg1 => absurd hg1 hc, Ext.refl _⟩)
    refine (does_move (u := (Bo (swpOk A_g n_))) (ev rfl)).mono ?_; rintro _ _ ⟨rfl, rfl⟩
    exact ⟨fun _ => rfl, Ext.refl _⟩
  refine RW_d _ rfl (fun v => by dsimp only [List.set]; try rfl) (fun u hu hF => ?_) (fun v330 => ?_)
  · have h89_ : (!β6) = false → v328 = (Bo (swpOk A_g n_)) := hF.1
    have h90_ : (!β6) = false → v329 = (Bo (swpOk A_g n_)) := hF.2.1
    have h88_ : v327 = (Bo (!β6)) := hF.2.2.1
    clear hF
    obtain rfl := h88_
    refine doesG_g (b := (!β6)) rfl (yld rfl rfl) (fun hg1 => ?_) (fun hc => ⟨fun hg1 => absurd hg1 hc, Ext.refl _⟩)
    obtain rfl := h89_ hg1
    obtain rfl := h90_ hg1
    refine (does_bne (p := (swpOk A_g n_)) (q := (swpOk A_g n_)) Try.underlying4 (ev rfl) (ev rfl)).mono ?_; rintro _ _ ⟨rfl, rfl⟩
    exact ⟨fun _ => (by first | rfl | (show _ = _; simp only [hβ7]; done) | (show _ = _; simp only [hβ7]; rfl)), Ext.refl _⟩
  refine RW_d _ rfl (fun v => by dsimp only [List.set]; try rfl) (fun u hu hF => ?_) (fun v331 => ?_)
  · have h88_ : v327 = (Bo (!β6)) := hF.1
    have h91_ : (!β6) = false → v330 = (Bo β7) := hF.2.1
    clear hF
    refine doesG_un rfl ?_
    skip
    obtain rfl := h88_
    refine (does_pick (b := (!β6)) (ev rfl) (ev rfl) (ev rfl)).mono ?_; rintro _ _ ⟨rfl, rfl⟩; refine ⟨?_, Ext.refl _⟩; skip
    cases hbb : (!β6)
    all_goals first | rfl | (have e_ := h91_ hbb; subst e_; rfl) | (simp [hbb] at h91_ ⊢; first | done | rfl | (subst h91_; rfl) | simp_all) | (simp [hbb] at h91_ ⊢; done)
  refine RW_fin ?_; intro w332 E333 hP334
  obtain ⟨⟨⟨⟨⟨⟨⟨⟨⟨-, -⟩, -⟩, -⟩, -⟩, -⟩, -⟩, -⟩, -⟩, q335⟩ := hP334
  have X336 := Ext.gr X320 E333
  have q335 : v331 = (Bo ((!β6) || β7)) := q335
  obtain rfl := q335
  show wpList _ _ _ _ (fr [_, _, _, _, _, _, _, _, _, _, _, _, _, _, _, _, _, _, _, _, _, _, _, _, _, _, _, _, _, _, _, _, _, _, _, _, _, _, _, _, _, _, _, _, _, _, _, _, _, _, _, _, _, _, _, _, _, _, _, _, _, _, _, _, _, _, _, _, _, _, _, _, _, _, _, _, _, _, _, _, _, _, _, _, _, _, _, _, _, _, _, _, _, _, _, _, _, _, _, _, _]) _
  refine wpList_nil (hK322 _ _ ?_)
  refine wp_cond_split (t := (!β6) || β7) (ev rfl) (fun c337 => ?_) (fun c337 => ?_)
  · have c337' := c337
    (try simp only [hβ1, hβ2, hβ3, hβ4, hβ5, hβ6, hβ7, sameG_self, bne_self_eq_false] at c337')
    (try simp only [hβ1, hβ2, hβ3, hβ4, hβ5, hβ6, hβ7] at c337')
    (try simp only [icmp, Bool.and_eq_true, Bool.or_eq_true, Bool.and_eq_false_iff, Bool.or_eq_false_iff, Bool.not_eq_true', Bool.not_eq_false', decide_eq_true_eq, decide_eq_false_iff_not, beq_iff_eq, bne_iff_ne, beq_eq_false_iff_ne, bne_eq_false_iff_eq] at c337')
    refine wp_seq_k fun K338 hK338 => ?_
    refine wp_region_lit ?_
    refine q_is rfl rfl (does_assign (u := (Bo false)) (ev rfl)) (by dsimp only [List.set]; try rfl) ?_
    refine wpList_nil (hK338 _ _ ?_)
    refine wp_ret ?_
    dsimp only [Exit.then, Exit.inBlock]
    refine ret_val (v := (Bo false)) (res_T rfl (slot rfl)) X336 ?_
    try simp only [h2, h4, h6, h8, h43, h45, h47, h49, h63, h65, h67, h69, h98, h100, h102, h104, h136, h138, h140, h142, hβ1, hβ2, hβ3, hβ4, hβ5, h268, h270, h272, h274, h293, h295, h297, h299, hβ6, hβ7, sameG_self, bne_self_eq_false] at c31 c179 c198 c229 c247 c252 c337
    have x339 : true = false := by first | with_reducible rfl | (exfalso; omega) | (exfalso; simp only [mkL_len] at * <;> omega) | (exfalso; rcases c337' with (hh | hh) | hh <;> first | omega | (exact Bool.noConfusion hh)) | (exfalso; rcases c337' with hh | hh <;> first | omega | (exact Bool.noConfusion hh)) | (simp only [sameG_self, bne_self_eq_false, h2, h4, h6, h8, h43, h45, h47, h49, h63, h65, h67, h69, h98, h100, h102, h104, h136, h138, h140, h142, hβ1, hβ2, hβ3, hβ4, hβ5, h268, h270, h272, h274, h293, h295, h297, h299, hβ6, hβ7, c31, c179, c198, c229, c247, c252, c337]; done) | (simp [sameG_self, bne_self_eq_false, h2, h4, h6, h8, h43, h45, h47, h49, h63, h65, h67, h69, h98, h100, h102, h104, h136, h138, h140, h142, hβ1, hβ2, hβ3, hβ4, hβ5, h268, h270, h272, h274, h293, h295, h297, h299, hβ6, hβ7, c31, c179, c198, c229, c247, c252, c337]; done) | (simp_all; done) | (exfalso; simp_all; done)
    exact (by first | rfl | rw [x339])
  have c337' := c337
  (try simp only [hβ1, hβ2, hβ3, hβ4, hβ5, hβ6, hβ7, sameG_self, bne_self_eq_false] at c337')
  (try simp only [hβ1, hβ2, hβ3, hβ4, hβ5, hβ6, hβ7] at c337')
  (try simp only [icmp, Bool.and_eq_true, Bool.or_eq_true, Bool.and_eq_false_iff, Bool.or_eq_false_iff, Bool.not_eq_true', Bool.not_eq_false', decide_eq_true_eq, decide_eq_false_iff_not, beq_iff_eq, bne_iff_ne, beq_eq_false_iff_ne, bne_eq_false_iff_eq] at c337')
  refine wp_skip (hK321 _ _ ?_)
  refine wp_seq_k fun K340 hK340 => ?_
  refine wp_region_lit ?_
  refine q_is rfl rfl (does_assign (u := (Iv 1)) (ev rfl)) (by dsimp only [List.set]; try rfl) ?_
  refine wpList_nil (hK340 _ _ ?_)
  refine wp_seq_k fun K341 hK341 => ?_
  refine wp_region_lit ?_
  refine q_is rfl rfl (does_loadAgg (cs := [(Fl r135), (Fl r137), (Fl r139), (Fl r141), (Iv ((swpR A_g n_).x)), (Iv ((swpR A_g n_).y)), (Iv ((swpR A_g n_).z)), (.slice p145 (((swpR A_g n_).vals).length) q146)]) (ev rfl) Try.isAgg31 Try.sizeOf31 (Blk.cells ((((((((((((hB160.ext E175).ext E185).ext E194).kl K204 (fun hc => absurd (Nat.lt_of_lt_of_le (hw110.1 _ hc).2 (Nat.le_trans (Nat.le_trans (Nat.le_trans (Below.size E114) (Nat.le_of_eq (Eq.symm (Wr.size W120)))) (Below.size E125)) hb150)) (Nat.lt_irrefl _))).ext E225).kl K235 (fun hc => absurd (Nat.lt_of_lt_of_le (hw148.1 _ hc).2 (Nat.le_trans (Nat.le_refl _) hb150)) (Nat.lt_irrefl _))).ext E242).ext E256).ext E281).ext E309).wr W317 (Nat.ne_of_lt n314)).ext E333)) rfl) (by dsimp only [List.set]; try rfl) ?_
  refine q_is rfl rfl (does_move (u := (Iv 1)) (ev rfl)) (by dsimp only [List.set]; try rfl) ?_
  refine seqd rfl rfl (does_call (args := #[(.agg #[(Fl r135), (Fl r137), (Fl r139), (Fl r141), (Iv ((swpR A_g n_).x)), (Iv ((swpR A_g n_).y)), (Iv ((swpR A_g n_).z)), (.slice p145 (((swpR A_g n_).vals).length) q146)]), (Iv 1)]) cal13 (evs rfl) (c_laws_heldGrid [(Fl r135), (Fl r137), (Fl r139), (Fl r141), (Iv ((swpR A_g n_).x)), (Iv ((swpR A_g n_).y)), (Iv ((swpR A_g n_).z)), (.slice p145 (((swpR A_g n_).vals).length) q146)] (GridT.mk (swpR A_g n_).low ((swpR A_g n_).step) ((swpR A_g n_).x) ((swpR A_g n_).y) ((swpR A_g n_).z) (mkL fF 1 1 ((swpR A_g n_).vals).length)) 1 _ ⟨r135, r137, r139, r141, (.slice p145 (((swpR A_g n_).vals).length) q146), rfl, h136, h138, h140, h142, (hM236 _ (((((((Same.refl _ _).ext E242).ext E256).ext E281).ext E309).wr W317 (.inr (Nat.le_trans (Nat.le_trans (Nat.le_trans (Below.size E242) (Below.size E256)) (Below.size E281)) hb307))).ext E333))⟩ (by exact mkL_eq) (by omega) (by (try dsimp only); rw [mkL_len]; omega))) ?_; rintro _ w343 ⟨E342, rfl⟩
  have X344 := Ext.gr X336 E342
  show wpList _ _ _ _ (fr [_, _, _, _, _, _, _, _, _, _, _, _, _, _, _, _, _, _, _, _, _, _, _, _, _, _, _, _, _, _, _, _, _, _, _, _, _, _, _, _, _, _, _, _, _, _, _, _, _, _, _, _, _, _, _, _, _, _, _, _, _, _, _, _, _, _, _, _, _, _, _, _, _, _, _, _, _, _, _, _, _, _, _, _, _, _, _, _, _, _, _, _, _, _, _, _, _, _, _, _, _]) _
  refine q_is rfl rfl (does_assign (u := (Iv (1 + ((mkL fF 1 1 ((swpR A_g n_).vals).length).length : Int) * 1))) (ev rfl)) (by dsimp only [List.set]; try rfl) ?_
  refine wpList_nil (hK341 _ _ ?_)
  refine wp_seq_k fun K345 hK345 => ?_
  refine wp_seq_k fun K346 hK346 => ?_
  refine wp_region_lit ?_
  refine q_is rfl rfl (does_move (u := (Iv (1 + ((mkL fF 1 1 ((swpR A_g n_).vals).length).length : Int) * 1))) (ev rfl)) (by dsimp only [List.set]; try rfl) ?_
  refine q_is rfl rfl (does_icmp (p := 1 + ((mkL fF 1 1 ((swpR A_g n_).vals).length).length : Int) * 1) (q := 0) (.inr (.inr (.inl rfl))) (ev rfl) (ev rfl)) (by dsimp only [List.set]; try rfl) ?_
  refine wpList_nil (hK346 _ _ ?_)
  refine wp_cond_false ((ev (rfl : evl _ _ = .bool (icmp .lss (1 + ((mkL fF 1 1 ((swpR A_g n_).vals).length).length : Int) * 1) 0))).trans (congrArg Value.bool c247)) ?_
  refine wp_skip (hK345 _ _ ?_)
  refine wp_seq_k fun K347 hK347 => ?_
  refine wp_seq_k fun K348 hK348 => ?_
  refine wp_region_lit ?_
  refine q_is rfl rfl (does_move (u := (Iv (1 + ((mkL fF 1 1 ((swpR A_g n_).vals).length).length : Int) * 1))) (ev rfl)) (by dsimp only [List.set]; try rfl) ?_
  refine q_is rfl rfl (does_move (u := (Iv (1 + (((swpR A_g n_).vals).length : Int) * 1))) (ev rfl)) (by dsimp only [List.set]; try rfl) ?_
  refine q_is rfl rfl (does_icmp (p := 1 + ((mkL fF 1 1 ((swpR A_g n_).vals).length).length : Int) * 1) (q := 1 + (((swpR A_g n_).vals).length : Int) * 1) (.inr (.inl rfl)) (ev rfl) (ev rfl)) (by dsimp only [List.set]; try rfl) ?_
  refine wpList_nil (hK348 _ _ ?_)
  refine wp_cond_false ((ev (rfl : evl _ _ = .bool (icmp .neq (1 + ((mkL fF 1 1 ((swpR A_g n_).vals).length).length : Int) * 1) (1 + (((swpR A_g n_).vals).length : Int) * 1)))).trans (congrArg Value.bool c252)) ?_
  refine wp_skip (hK347 _ _ ?_)
  refine wp_seq_k fun K349 hK349 => ?_
  refine wp_region_lit ?_
  refine q_is rfl rfl (does_assign (u := (Bo true)) (ev rfl)) (by dsimp only [List.set]; try rfl) ?_
  refine wpList_nil (hK349 _ _ ?_)
  refine wp_ret ?_
  refine ret_val (v := (Bo true)) (res_T rfl (slot rfl)) X344 ?_
  try simp only [h2, h4, h6, h8, h43, h45, h47, h49, h63, h65, h67, h69, h98, h100, h102, h104, h136, h138, h140, h142, hβ1, hβ2, hβ3, hβ4, hβ5, h268, h270, h272, h274, h293, h295, h297, h299, hβ6, hβ7, sameG_self, bne_self_eq_false] at c31 c179 c198 c229 c247 c252 c337
  exact rfl

end Go.Proofs.Ytffmjlalacnfiaa
