/- contracts of functions, each walked once -/
import Derived.Test.YtoblnfkpjgghiaaTy
import Derived.Test.YtoblnfkpjgghiaaUni
import Derived.Test.YtoblnfkpjgghiaaOwn
import Derived.Test.YtoblnfkpjgghiaaFlp
import Derived.Test.YtoblnfkpjgghiaaNrm
import Derived.Test.YtoblnfkpjgghiaaNex
import Derived.Test.YtoblnfkpjgghiaaEdj
import Derived.Test.YtoblnfkpjgghiaaRgj
import Derived.Test.YtoblnfkpjgghiaaKmp
namespace Go.Proofs.Ytoblnfkpjgghiaa
open Go Go.RowKit
set_option maxRecDepth 100000
set_option maxHeartbeats 3200000
set_option linter.unusedVariables false
set_option linter.unusedSimpArgs false

/- laws.szVectorS -/
theorem c_laws_szVectorS (a : Value) (L_a : List V3) (left : Int) (w : World) (hv_a : Sl RV3 3 w a L_a) (hle : left ≤ 1048576) (hge : 0 ≤ left) : Gives Try.prog 23 #[a, (Iv left)] w (fun v w' => ∃ i_1 : Int, v = (Iv i_1) ∧ (i_1 < 0 ∨ ((L_a.length : Int) ≤ left ∧ i_1 = left - L_a.length ∧ 0 ≤ i_1))) := by
  have hlen_a := Sl.len hv_a; obtain ⟨p_a, q_a, rfl⟩ := Sl.shape hv_a
  refine enter [(.slice p_a L_a.length q_a), (Iv left), Ud, Ud, Ud, Ud, Ud, Ud, Ud, Ud, Ud, Ud] Try.func23 rfl Try.ntmps23 rfl ?_
  refine wp_seq_k fun K1 hK1 => ?_
  refine wp_region_lit ?_
  refine q_is (l' := [(.slice p_a L_a.length q_a), (Iv left), Ud, Ud, (Iv 0), Ud, Ud, Ud, Ud, Ud, Ud, Ud]) rfl rfl (does_assign (u := (Iv 0)) (ev rfl)) rfl ?_
  refine wpList_nil (hK1 _ _ ?_)
  refine wp_seq_k fun K2 hK2 => ?_
  refine wp_region_lit ?_
  refine q_is (l' := [(.slice p_a L_a.length q_a), (Iv left), Ud, Ud, (Iv 0), (Iv left), Ud, Ud, Ud, Ud, Ud, Ud]) rfl rfl (does_move (u := (Iv left)) (ev rfl)) rfl ?_
  refine q_is (l' := [(.slice p_a L_a.length q_a), (Iv left), Ud, Ud, (Iv 0), (Iv left), (.slice p_a L_a.length q_a), Ud, Ud, Ud, Ud, Ud]) rfl rfl (does_move (u := (.slice p_a L_a.length q_a)) (ev rfl)) rfl ?_
  refine q_is (l' := [(.slice p_a L_a.length q_a), (Iv left), Ud, Ud, (Iv 0), (Iv left), (.slice p_a L_a.length q_a), (Iv (L_a.length : Int)), Ud, Ud, Ud, Ud]) rfl rfl (does_len_slice Try.underlying22 (ev rfl)) rfl ?_
  refine q_is (l' := [(.slice p_a L_a.length q_a), (Iv left), Ud, Ud, (Iv 0), (Iv left), (.slice p_a L_a.length q_a), (Iv (L_a.length : Int)), (Iv (left - (L_a.length : Int))), Ud, Ud, Ud]) rfl rfl (does_iarith (p := left) (q := (L_a.length : Int)) (r := left - (L_a.length : Int)) (ev rfl) (ev rfl) (.inr (.inl ⟨rfl, (in_i64 (by omega) (by omega)).symm⟩))) rfl ?_
  refine q_is (l' := [(.slice p_a L_a.length q_a), (Iv (left - (L_a.length : Int))), Ud, Ud, (Iv 0), (Iv left), (.slice p_a L_a.length q_a), (Iv (L_a.length : Int)), (Iv (left - (L_a.length : Int))), Ud, Ud, Ud]) rfl rfl (does_assign (u := (Iv (left - (L_a.length : Int)))) (ev rfl)) rfl ?_
  refine wpList_nil (hK2 _ _ ?_)
  refine wp_seq_k fun K3 hK3 => ?_
  refine wp_seq_k fun K4 hK4 => ?_
  refine wp_region_lit ?_
  refine q_is (l' := [(.slice p_a L_a.length q_a), (Iv (left - (L_a.length : Int))), Ud, Ud, (Iv 0), (Iv left), (.slice p_a L_a.length q_a), (Iv (L_a.length : Int)), (Iv (left - (L_a.length : Int))), (Iv (left - (L_a.length : Int))), Ud, Ud]) rfl rfl (does_move (u := (Iv (left - (L_a.length : Int)))) (ev rfl)) rfl ?_
  refine q_is (l' := [(.slice p_a L_a.length q_a), (Iv (left - (L_a.length : Int))), Ud, Ud, (Iv 0), (Iv left), (.slice p_a L_a.length q_a), (Iv (L_a.length : Int)), (Iv (left - (L_a.length : Int))), (Iv (left - (L_a.length : Int))), (Bo (icmp .lss (left - (L_a.length : Int)) 0)), Ud]) rfl rfl (does_icmp (p := left - (L_a.length : Int)) (q := 0) (.inr (.inr (.inl rfl))) (ev rfl) (ev rfl)) rfl ?_
  refine wpList_nil (hK4 _ _ ?_)
  refine wp_cond_split (t := icmp .lss (left - (L_a.length : Int)) 0) (ev rfl) (fun c5 => ?_) (fun c5 => ?_)
  · have c5' := c5
    (try simp only [icmp, Bool.and_eq_true, Bool.or_eq_true, Bool.and_eq_false_iff, Bool.or_eq_false_iff, Bool.not_eq_true', Bool.not_eq_false', decide_eq_true_eq, decide_eq_false_iff_not, beq_iff_eq, bne_iff_ne, beq_eq_false_iff_ne, bne_eq_false_iff_eq] at c5')
    refine wp_seq_k fun K6 hK6 => ?_
    refine wp_region_lit ?_
    refine q_is (l' := [(.slice p_a L_a.length q_a), (Iv (left - (L_a.length : Int))), Ud, Ud, (Iv (-1)), (Iv left), (.slice p_a L_a.length q_a), (Iv (L_a.length : Int)), (Iv (left - (L_a.length : Int))), (Iv (left - (L_a.length : Int))), (Bo (icmp .lss (left - (L_a.length : Int)) 0)), Ud]) rfl rfl (does_assign (u := (Iv (-1))) (ev rfl)) rfl ?_
    refine wpList_nil (hK6 _ _ ?_)
    refine wp_ret ?_
    dsimp only [Exit.then, Exit.inBlock]
    refine ret_val (v := (Iv (-1))) (res_T rfl (slot rfl)) (Ext.refl w) ?_
    have x7 : (-1) < 0 ∨ ((L_a.length : Int) ≤ left ∧ (-1) = left - L_a.length ∧ 0 ≤ (-1)) := by omega
    exact ⟨(-1), rfl, x7⟩
  have c5' := c5
  (try simp only [icmp, Bool.and_eq_true, Bool.or_eq_true, Bool.and_eq_false_iff, Bool.or_eq_false_iff, Bool.not_eq_true', Bool.not_eq_false', decide_eq_true_eq, decide_eq_false_iff_not, beq_iff_eq, bne_iff_ne, beq_eq_false_iff_ne, bne_eq_false_iff_eq] at c5')
  refine wp_skip (hK3 _ _ ?_)
  refine wp_seq_k fun K8 hK8 => ?_
  refine wp_region_lit ?_
  refine q_is (l' := [(.slice p_a L_a.length q_a), (Iv (left - (L_a.length : Int))), Ud, Ud, (Iv 0), (Iv left), (.slice p_a L_a.length q_a), (Iv (L_a.length : Int)), (Iv (left - (L_a.length : Int))), (Iv (left - (L_a.length : Int))), (Bo (icmp .lss (left - (L_a.length : Int)) 0)), (Iv (left - (L_a.length : Int)))]) rfl rfl (does_move (u := (Iv (left - (L_a.length : Int)))) (ev rfl)) rfl ?_
  refine q_is (l' := [(.slice p_a L_a.length q_a), (Iv (left - (L_a.length : Int))), Ud, Ud, (Iv (left - (L_a.length : Int))), (Iv left), (.slice p_a L_a.length q_a), (Iv (L_a.length : Int)), (Iv (left - (L_a.length : Int))), (Iv (left - (L_a.length : Int))), (Bo (icmp .lss (left - (L_a.length : Int)) 0)), (Iv (left - (L_a.length : Int)))]) rfl rfl (does_assign (u := (Iv (left - (L_a.length : Int)))) (ev rfl)) rfl ?_
  refine wpList_nil (hK8 _ _ ?_)
  refine wp_ret ?_
  refine ret_val (v := (Iv (left - (L_a.length : Int)))) (res_T rfl (slot rfl)) (Ext.refl w) ?_
  have x9 : (left - (L_a.length : Int)) < 0 ∨ ((L_a.length : Int) ≤ left ∧ (left - (L_a.length : Int)) = left - L_a.length ∧ 0 ≤ (left - (L_a.length : Int))) := by omega
  exact ⟨(left - (L_a.length : Int)), rfl, x9⟩

/- laws.szInt64S -/
theorem c_laws_szInt64S (a : Value) (L_a : List Int) (left : Int) (w : World) (hv_a : Sl RI 1 w a L_a) (hle : left ≤ 1048576) (hge : 0 ≤ left) : Gives Try.prog 42 #[a, (Iv left)] w (fun v w' => ∃ i_1 : Int, v = (Iv i_1) ∧ (i_1 < 0 ∨ ((L_a.length : Int) ≤ left ∧ i_1 = left - L_a.length ∧ 0 ≤ i_1))) := by
  have hlen_a := Sl.len hv_a; obtain ⟨p_a, q_a, rfl⟩ := Sl.shape hv_a
  refine enter [(.slice p_a L_a.length q_a), (Iv left), Ud, Ud, Ud, Ud, Ud, Ud, Ud, Ud, Ud, Ud] Try.func42 rfl Try.ntmps42 rfl ?_
  refine wp_seq_k fun K1 hK1 => ?_
  refine wp_region_lit ?_
  refine q_is (l' := [(.slice p_a L_a.length q_a), (Iv left), Ud, Ud, (Iv 0), Ud, Ud, Ud, Ud, Ud, Ud, Ud]) rfl rfl (does_assign (u := (Iv 0)) (ev rfl)) rfl ?_
  refine wpList_nil (hK1 _ _ ?_)
  refine wp_seq_k fun K2 hK2 => ?_
  refine wp_region_lit ?_
  refine q_is (l' := [(.slice p_a L_a.length q_a), (Iv left), Ud, Ud, (Iv 0), (Iv left), Ud, Ud, Ud, Ud, Ud, Ud]) rfl rfl (does_move (u := (Iv left)) (ev rfl)) rfl ?_
  refine q_is (l' := [(.slice p_a L_a.length q_a), (Iv left), Ud, Ud, (Iv 0), (Iv left), (.slice p_a L_a.length q_a), Ud, Ud, Ud, Ud, Ud]) rfl rfl (does_move (u := (.slice p_a L_a.length q_a)) (ev rfl)) rfl ?_
  refine q_is (l' := [(.slice p_a L_a.length q_a), (Iv left), Ud, Ud, (Iv 0), (Iv left), (.slice p_a L_a.length q_a), (Iv (L_a.length : Int)), Ud, Ud, Ud, Ud]) rfl rfl (does_len_slice Try.underlying27 (ev rfl)) rfl ?_
  refine q_is (l' := [(.slice p_a L_a.length q_a), (Iv left), Ud, Ud, (Iv 0), (Iv left), (.slice p_a L_a.length q_a), (Iv (L_a.length : Int)), (Iv (left - (L_a.length : Int))), Ud, Ud, Ud]) rfl rfl (does_iarith (p := left) (q := (L_a.length : Int)) (r := left - (L_a.length : Int)) (ev rfl) (ev rfl) (.inr (.inl ⟨rfl, (in_i64 (by omega) (by omega)).symm⟩))) rfl ?_
  refine q_is (l' := [(.slice p_a L_a.length q_a), (Iv (left - (L_a.length : Int))), Ud, Ud, (Iv 0), (Iv left), (.slice p_a L_a.length q_a), (Iv (L_a.length : Int)), (Iv (left - (L_a.length : Int))), Ud, Ud, Ud]) rfl rfl (does_assign (u := (Iv (left - (L_a.length : Int)))) (ev rfl)) rfl ?_
  refine wpList_nil (hK2 _ _ ?_)
  refine wp_seq_k fun K3 hK3 => ?_
  refine wp_seq_k fun K4 hK4 => ?_
  refine wp_region_lit ?_
  refine q_is (l' := [(.slice p_a L_a.length q_a), (Iv (left - (L_a.length : Int))), Ud, Ud, (Iv 0), (Iv left), (.slice p_a L_a.length q_a), (Iv (L_a.length : Int)), (Iv (left - (L_a.length : Int))), (Iv (left - (L_a.length : Int))), Ud, Ud]) rfl rfl (does_move (u := (Iv (left - (L_a.length : Int)))) (ev rfl)) rfl ?_
  refine q_is (l' := [(.slice p_a L_a.length q_a), (Iv (left - (L_a.length : Int))), Ud, Ud, (Iv 0), (Iv left), (.slice p_a L_a.length q_a), (Iv (L_a.length : Int)), (Iv (left - (L_a.length : Int))), (Iv (left - (L_a.length : Int))), (Bo (icmp .lss (left - (L_a.length : Int)) 0)), Ud]) rfl rfl (does_icmp (p := left - (L_a.length : Int)) (q := 0) (.inr (.inr (.inl rfl))) (ev rfl) (ev rfl)) rfl ?_
  refine wpList_nil (hK4 _ _ ?_)
  refine wp_cond_split (t := icmp .lss (left - (L_a.length : Int)) 0) (ev rfl) (fun c5 => ?_) (fun c5 => ?_)
  · have c5' := c5
    (try simp only [icmp, Bool.and_eq_true, Bool.or_eq_true, Bool.and_eq_false_iff, Bool.or_eq_false_iff, Bool.not_eq_true', Bool.not_eq_false', decide_eq_true_eq, decide_eq_false_iff_not, beq_iff_eq, bne_iff_ne, beq_eq_false_iff_ne, bne_eq_false_iff_eq] at c5')
    refine wp_seq_k fun K6 hK6 => ?_
    refine wp_region_lit ?_
    refine q_is (l' := [(.slice p_a L_a.length q_a), (Iv (left - (L_a.length : Int))), Ud, Ud, (Iv (-1)), (Iv left), (.slice p_a L_a.length q_a), (Iv (L_a.length : Int)), (Iv (left - (L_a.length : Int))), (Iv (left - (L_a.length : Int))), (Bo (icmp .lss (left - (L_a.length : Int)) 0)), Ud]) rfl rfl (does_assign (u := (Iv (-1))) (ev rfl)) rfl ?_
    refine wpList_nil (hK6 _ _ ?_)
    refine wp_ret ?_
    dsimp only [Exit.then, Exit.inBlock]
    refine ret_val (v := (Iv (-1))) (res_T rfl (slot rfl)) (Ext.refl w) ?_
    have x7 : (-1) < 0 ∨ ((L_a.length : Int) ≤ left ∧ (-1) = left - L_a.length ∧ 0 ≤ (-1)) := by omega
    exact ⟨(-1), rfl, x7⟩
  have c5' := c5
  (try simp only [icmp, Bool.and_eq_true, Bool.or_eq_true, Bool.and_eq_false_iff, Bool.or_eq_false_iff, Bool.not_eq_true', Bool.not_eq_false', decide_eq_true_eq, decide_eq_false_iff_not, beq_iff_eq, bne_iff_ne, beq_eq_false_iff_ne, bne_eq_false_iff_eq] at c5')
  refine wp_skip (hK3 _ _ ?_)
  refine wp_seq_k fun K8 hK8 => ?_
  refine wp_region_lit ?_
  refine q_is (l' := [(.slice p_a L_a.length q_a), (Iv (left - (L_a.length : Int))), Ud, Ud, (Iv 0), (Iv left), (.slice p_a L_a.length q_a), (Iv (L_a.length : Int)), (Iv (left - (L_a.length : Int))), (Iv (left - (L_a.length : Int))), (Bo (icmp .lss (left - (L_a.length : Int)) 0)), (Iv (left - (L_a.length : Int)))]) rfl rfl (does_move (u := (Iv (left - (L_a.length : Int)))) (ev rfl)) rfl ?_
  refine q_is (l' := [(.slice p_a L_a.length q_a), (Iv (left - (L_a.length : Int))), Ud, Ud, (Iv (left - (L_a.length : Int))), (Iv left), (.slice p_a L_a.length q_a), (Iv (L_a.length : Int)), (Iv (left - (L_a.length : Int))), (Iv (left - (L_a.length : Int))), (Bo (icmp .lss (left - (L_a.length : Int)) 0)), (Iv (left - (L_a.length : Int)))]) rfl rfl (does_assign (u := (Iv (left - (L_a.length : Int)))) (ev rfl)) rfl ?_
  refine wpList_nil (hK8 _ _ ?_)
  refine wp_ret ?_
  refine ret_val (v := (Iv (left - (L_a.length : Int)))) (res_T rfl (slot rfl)) (Ext.refl w) ?_
  have x9 : (left - (L_a.length : Int)) < 0 ∨ ((L_a.length : Int) ≤ left ∧ (left - (L_a.length : Int)) = left - L_a.length ∧ 0 ≤ (left - (L_a.length : Int))) := by omega
  exact ⟨(left - (L_a.length : Int)), rfl, x9⟩

/- laws.szInt64SS -/
theorem c_laws_szInt64SS (a : Value) (L_a : List (List Int)) (left : Int) (w : World) (hv_a : Sl (RS RI 1) 1 w a L_a) (hle : left ≤ 1048576) (hge : 0 ≤ left) : Gives Try.prog 24 #[a, (Iv left)] w (fun v w' => ∃ i_1 : Int, v = (Iv i_1) ∧ (i_1 < 0 ∨ ((liTot L_a : Int) ≤ left ∧ i_1 = left - liTot L_a ∧ 0 ≤ i_1))) := by
  have hlen_a := Sl.len hv_a; obtain ⟨p_a, q_a, rfl⟩ := Sl.shape hv_a
  refine enter [(.slice p_a L_a.length q_a), (Iv left), Ud, Ud, Ud, Ud, Ud, Ud, Ud, Ud, Ud, Ud, Ud, Ud, Ud, Ud, Ud, Ud, Ud, Ud, Ud, Ud, Ud, Ud, Ud, Ud, Ud] Try.func24 rfl Try.ntmps24 rfl ?_
  refine wp_seq_k fun K1 hK1 => ?_
  refine wp_region_lit ?_
  refine q_is rfl rfl (does_assign (u := (Iv 0)) (ev rfl)) (by dsimp only [List.set]; try rfl) ?_
  refine wpList_nil (hK1 _ _ ?_)
  refine wp_seq_k fun K2 hK2 => ?_
  refine wp_region_lit ?_
  refine q_is rfl rfl (does_move (u := (Iv left)) (ev rfl)) (by dsimp only [List.set]; try rfl) ?_
  refine q_is rfl rfl (does_move (u := (.slice p_a L_a.length q_a)) (ev rfl)) (by dsimp only [List.set]; try rfl) ?_
  refine q_is rfl rfl (does_len_slice Try.underlying23 (ev rfl)) (by dsimp only [List.set]; try rfl) ?_
  refine q_is rfl rfl (does_iarith (p := left) (q := (L_a.length : Int)) (r := left - (L_a.length : Int)) (ev rfl) (ev rfl) (.inr (.inl ⟨rfl, (in_i64 (by omega) (by omega)).symm⟩))) (by dsimp only [List.set]; try rfl) ?_
  refine q_is rfl rfl (does_assign (u := (Iv (left - (L_a.length : Int)))) (ev rfl)) (by dsimp only [List.set]; try rfl) ?_
  refine wpList_nil (hK2 _ _ ?_)
  refine wp_seq_k fun K3 hK3 => ?_
  refine wp_seq_k fun K4 hK4 => ?_
  refine wp_region_lit ?_
  refine q_is rfl rfl (does_move (u := (Iv (left - (L_a.length : Int)))) (ev rfl)) (by dsimp only [List.set]; try rfl) ?_
  refine q_is rfl rfl (does_icmp (p := left - (L_a.length : Int)) (q := 0) (.inr (.inr (.inl rfl))) (ev rfl) (ev rfl)) (by dsimp only [List.set]; try rfl) ?_
  refine wpList_nil (hK4 _ _ ?_)
  refine wp_cond_split (t := icmp .lss (left - (L_a.length : Int)) 0) (ev rfl) (fun c5 => ?_) (fun c5 => ?_)
  · have c5' := c5
    (try simp only [icmp, Bool.and_eq_true, Bool.or_eq_true, Bool.and_eq_false_iff, Bool.or_eq_false_iff, Bool.not_eq_true', Bool.not_eq_false', decide_eq_true_eq, decide_eq_false_iff_not, beq_iff_eq, bne_iff_ne, beq_eq_false_iff_ne, bne_eq_false_iff_eq] at c5')
    refine wp_seq_k fun K6 hK6 => ?_
    refine wp_region_lit ?_
    refine q_is rfl rfl (does_assign (u := (Iv (-1))) (ev rfl)) (by dsimp only [List.set]; try rfl) ?_
    refine wpList_nil (hK6 _ _ ?_)
    refine wp_ret ?_
    dsimp only [Exit.then, Exit.inBlock]
    refine ret_val (v := (Iv (-1))) (res_T rfl (slot rfl)) (Ext.refl w) ?_
    have x7 : (-1) < 0 ∨ ((liTot L_a : Int) ≤ left ∧ (-1) = left - liTot L_a ∧ 0 ≤ (-1)) := by first | omega | (have hle : s.1 = L_a.length := (by omega); rw [hle] at hn; right; unfold liTot; omega)
    exact ⟨(-1), rfl, x7⟩
  have c5' := c5
  (try simp only [icmp, Bool.and_eq_true, Bool.or_eq_true, Bool.and_eq_false_iff, Bool.or_eq_false_iff, Bool.not_eq_true', Bool.not_eq_false', decide_eq_true_eq, decide_eq_false_iff_not, beq_iff_eq, bne_iff_ne, beq_eq_false_iff_ne, bne_eq_false_iff_eq] at c5')
  refine wp_skip (hK3 _ _ ?_)
  refine wp_seq_k fun K8 hK8 => ?_
  refine wp_seq_k fun K9 hK9 => ?_
  refine wp_region_lit ?_
  refine q_is rfl rfl (does_assign (u := (Iv 0)) (ev rfl)) (by dsimp only [List.set]; try rfl) ?_
  refine wpList_nil (hK9 _ _ ?_)
  refine wp_block ?_
  refine loop_ghost (σ := Nat × Int) (fun s a w' => ∃ u10 : Nat → Value, a = fr [(.slice p_a L_a.length q_a), (Iv s.2), Ud, Ud, (u10 4), (Iv (s.1 : Int)), (Iv left), (.slice p_a L_a.length q_a), (Iv (L_a.length : Int)), (Iv (left - (L_a.length : Int))), (Iv (left - (L_a.length : Int))), (Bo (icmp .lss (left - (L_a.length : Int)) 0)), (u10 12), (u10 13), (u10 14), (u10 15), (u10 16), (u10 17), (u10 18), (u10 19), (u10 20), (u10 21), (u10 22), (u10 23), (u10 24), (u10 25), Ud] ∧ Ext w w' ∧ (s.1 ≤ L_a.length ∧ s.2 = left - L_a.length - (liSum L_a s.1 : Nat) ∧ 0 ≤ s.2)) (fun s => L_a.length - s.1) (0, left - L_a.length) ?_ ?_
  · refine ⟨fun t => (([(.slice p_a L_a.length q_a), (Iv (left - (L_a.length : Int))), Ud, Ud, (Iv 0), (Iv 0), (Iv left), (.slice p_a L_a.length q_a), (Iv (L_a.length : Int)), (Iv (left - (L_a.length : Int))), (Iv (left - (L_a.length : Int))), (Bo (icmp .lss (left - (L_a.length : Int)) 0)), Ud, Ud, Ud, Ud, Ud, Ud, Ud, Ud, Ud, Ud, Ud, Ud, Ud, Ud, Ud] : List Value)[t]?).getD undef, rfl, Ext.refl _, ?_⟩
    exact ⟨Nat.zero_le _, by simp [liSum], by omega⟩
  · rintro s a w11 ⟨u10, rfl, E12, ⟨hk, hn, h0⟩⟩
    have X14 := Ext.gr (Ext.refl w) E12
    refine wp_seq_k fun K15 hK15 => ?_
    refine wp_seq_k fun K16 hK16 => ?_
    refine wp_region_lit ?_
    refine q_is rfl rfl (does_move (u := (Iv (s.1 : Int))) (ev rfl)) (by dsimp only [List.set]; try rfl) ?_
    refine q_is rfl rfl (does_move (u := (.slice p_a L_a.length q_a)) (ev rfl)) (by dsimp only [List.set]; try rfl) ?_
    refine q_is rfl rfl (does_len_slice Try.underlying23 (ev rfl)) (by dsimp only [List.set]; try rfl) ?_
    refine q_is rfl rfl (does_icmp (p := (s.1 : Int)) (q := (L_a.length : Int)) (.inr (.inr (.inl rfl))) (ev rfl) (ev rfl)) (by dsimp only [List.set]; try rfl) ?_
    refine wpList_nil (hK16 _ _ ?_)
    refine wp_cond_split (t := icmp .lss (s.1 : Int) (L_a.length : Int)) (ev rfl) (fun c17 => ?_) (fun c17 => ?_)
    · have c17' := c17
      (try simp only [icmp, Bool.and_eq_true, Bool.or_eq_true, Bool.and_eq_false_iff, Bool.or_eq_false_iff, Bool.not_eq_true', Bool.not_eq_false', decide_eq_true_eq, decide_eq_false_iff_not, beq_iff_eq, bne_iff_ne, beq_eq_false_iff_ne, bne_eq_false_iff_eq] at c17')
      refine wp_skip (hK15 _ _ ?_)
      refine wp_seq_k fun K18 hK18 => ?_
      refine wp_block ?_
      refine wp_seq_k fun K19 hK19 => ?_
      refine wp_region_lit ?_
      refine q_is rfl rfl (does_move (u := (.slice p_a L_a.length q_a)) (ev rfl)) (by dsimp only [List.set]; try rfl) ?_
      refine q_is rfl rfl (does_move (u := (Iv (s.1 : Int))) (ev rfl)) (by dsimp only [List.set]; try rfl) ?_
      obtain ⟨el1, hel1⟩ : ∃ e, L_a[s.1]? = some e := ⟨_, List.getElem?_eq_getElem (by omega)⟩
      refine seqd rfl rfl (does_indexSl (R := (RS RI 1)) (i := (s.1 : Int)) (xs := L_a) (e := el1) Try.underlying23 Try.sizeOf27 (ev rfl) (ev rfl) (Sl.ext hv_a (RS.mono RI.mono) X14) (by omega) hel1) ?_; rintro _ w11 ⟨b20, o21, _, rfl, hc23, ⟨y24, rfl, h25⟩, rfl⟩
      have hs28 := h25; have hs28l := Sl.len h25; obtain ⟨p26, q27, rfl⟩ := Sl.shape h25
      show wpList _ _ _ _ (fr [_, _, _, _, _, _, _, _, _, _, _, _, _, _, _, _, _, _, _, _, _, _, _, _, _, _, _]) _
      refine q_is rfl rfl (does_load (u := (.slice p26 el1.length q27)) (ev rfl) Try.isAgg27 (Cells.at hc23 0 rfl)) (by dsimp only [List.set]; try rfl) ?_
      refine q_is rfl rfl (does_move (u := (Iv s.2)) (ev rfl)) (by dsimp only [List.set]; try rfl) ?_
      refine seqd rfl rfl (does_call (args := #[(.slice p26 el1.length q27), (Iv s.2)]) cal42 (evs rfl) (c_laws_szInt64S (.slice p26 el1.length q27) el1 s.2 _ hs28 (by omega) (by omega))) ?_; rintro _ w30 ⟨E29, ⟨i31, rfl, h32⟩⟩
      have X33 := Ext.gr X14 E29
      show wpList _ _ _ _ (fr [_, _, _, _, _, _, _, _, _, _, _, _, _, _, _, _, _, _, _, _, _, _, _, _, _, _, _]) _
      refine q_is rfl rfl (does_assign (u := (Iv i31)) (ev rfl)) (by dsimp only [List.set]; try rfl) ?_
      refine wpList_nil (hK19 _ _ ?_)
      refine wp_seq_k fun K34 hK34 => ?_
      refine wp_region_lit ?_
      refine q_is rfl rfl (does_move (u := (Iv i31)) (ev rfl)) (by dsimp only [List.set]; try rfl) ?_
      refine q_is rfl rfl (does_icmp (p := i31) (q := 0) (.inr (.inr (.inl rfl))) (ev rfl) (ev rfl)) (by dsimp only [List.set]; try rfl) ?_
      refine wpList_nil (hK34 _ _ ?_)
      refine wp_cond_split (t := icmp .lss i31 0) (ev rfl) (fun c35 => ?_) (fun c35 => ?_)
      · have c35' := c35
        (try simp only [icmp, Bool.and_eq_true, Bool.or_eq_true, Bool.and_eq_false_iff, Bool.or_eq_false_iff, Bool.not_eq_true', Bool.not_eq_false', decide_eq_true_eq, decide_eq_false_iff_not, beq_iff_eq, bne_iff_ne, beq_eq_false_iff_ne, bne_eq_false_iff_eq] at c35')
        refine wp_seq_k fun K36 hK36 => ?_
        refine wp_region_lit ?_
        refine q_is rfl rfl (does_assign (u := (Iv (-1))) (ev rfl)) (by dsimp only [List.set]; try rfl) ?_
        refine wpList_nil (hK36 _ _ ?_)
        refine wp_ret ?_
        dsimp only [Exit.then, Exit.inBlock]
        refine ret_val (v := (Iv (-1))) (res_T rfl (slot rfl)) X33 ?_
        try simp only [hel1] at c5 c17 c35
        have x37 : (-1) < 0 ∨ ((liTot L_a : Int) ≤ left ∧ (-1) = left - liTot L_a ∧ 0 ≤ (-1)) := by first | omega | (have hle : s.1 = L_a.length := (by omega); rw [hle] at hn; right; unfold liTot; omega)
        exact ⟨(-1), rfl, x37⟩
      have c35' := c35
      (try simp only [icmp, Bool.and_eq_true, Bool.or_eq_true, Bool.and_eq_false_iff, Bool.or_eq_false_iff, Bool.not_eq_true', Bool.not_eq_false', decide_eq_true_eq, decide_eq_false_iff_not, beq_iff_eq, bne_iff_ne, beq_eq_false_iff_ne, bne_eq_false_iff_eq] at c35')
      refine wp_skip (hK18 _ _ ?_)
      refine wp_region_lit ?_
      refine q_is rfl rfl (does_move (u := (Iv (s.1 : Int))) (ev rfl)) (by dsimp only [List.set]; try rfl) ?_
      refine q_is rfl rfl (does_iarith (p := (s.1 : Int)) (q := 1) (r := (s.1 : Int) + 1) (ev rfl) (ev rfl) (.inl ⟨rfl, (in_i64 (by omega) (by omega)).symm⟩)) (by dsimp only [List.set]; try rfl) ?_
      refine q_is rfl rfl (does_assign (u := (Iv ((s.1 : Int) + 1))) (ev rfl)) (by dsimp only [List.set]; try rfl) ?_
      refine wpList_nil ?_
      refine ⟨(s.1 + 1, i31), ⟨fun t => (([(.slice p_a L_a.length q_a), (Iv i31), Ud, Ud, (u10 4), (Iv ((s.1 : Int) + 1)), (Iv left), (.slice p_a L_a.length q_a), (Iv (L_a.length : Int)), (Iv (left - (L_a.length : Int))), (Iv (left - (L_a.length : Int))), (Bo (icmp .lss (left - (L_a.length : Int)) 0)), (Iv (s.1 : Int)), (.slice p_a L_a.length q_a), (Iv (L_a.length : Int)), (Bo (icmp .lss (s.1 : Int) (L_a.length : Int))), (Iv (s.1 : Int)), (Iv ((s.1 : Int) + 1)), (.slice p_a L_a.length q_a), (Iv (s.1 : Int)), (Pt b20 o21), (.slice p26 el1.length q27), (Iv s.2), (Iv i31), (Iv i31), (Bo (icmp .lss i31 0)), Ud] : List Value)[t]?).getD undef, ?_, (Ext.gr E12 E29), ?_⟩, ?_⟩
      · first | rfl | (simp only [Int.natCast_add, Int.natCast_one]; rfl)
      · (try dsimp only); have hss := liSum_succ (by assumption : L_a[s.1]? = some _); refine ⟨by omega, ?_, ?_⟩ <;> (try dsimp only) <;> omega
      · (try dsimp only); omega
    have c17' := c17
    (try simp only [icmp, Bool.and_eq_true, Bool.or_eq_true, Bool.and_eq_false_iff, Bool.or_eq_false_iff, Bool.not_eq_true', Bool.not_eq_false', decide_eq_true_eq, decide_eq_false_iff_not, beq_iff_eq, bne_iff_ne, beq_eq_false_iff_ne, bne_eq_false_iff_eq] at c17')
    refine wp_exit ?_
    refine hK8 _ _ ?_
    refine wp_seq_k fun K38 hK38 => ?_
    refine wp_region_lit ?_
    refine q_is rfl rfl (does_move (u := (Iv s.2)) (ev rfl)) (by dsimp only [List.set]; try rfl) ?_
    refine q_is rfl rfl (does_assign (u := (Iv s.2)) (ev rfl)) (by dsimp only [List.set]; try rfl) ?_
    refine wpList_nil (hK38 _ _ ?_)
    refine wp_ret ?_
    refine ret_val (v := (Iv s.2)) (res_T rfl (slot rfl)) X14 ?_
    have x39 : s.2 < 0 ∨ ((liTot L_a : Int) ≤ left ∧ s.2 = left - liTot L_a ∧ 0 ≤ s.2) := by first | omega | (have hle : s.1 = L_a.length := (by omega); rw [hle] at hn; right; unfold liTot; omega)
    exact ⟨s.2, rfl, x39⟩

/- laws.szMesh -/
theorem c_laws_szMesh (a : List Value) (A_a : MeshT) (left : Int) (w : World) (hv_a : RMeshT w A_a a) (hle : left ≤ 1048576) (hge : 0 ≤ left) : Gives Try.prog 7 #[(.agg a.toArray), (Iv left)] w (fun v w' => ∃ i_1 : Int, v = (Iv i_1) ∧ (i_1 < 0 ∨ ((meTot A_a : Int) ≤ left ∧ i_1 = left - meTot A_a ∧ 0 ≤ i_1))) := by
  obtain ⟨y1, y3, rfl, h2, h4⟩ := hv_a
  have hs7 := h2; have hs7l := Sl.len h2; obtain ⟨p5, q6, rfl⟩ := Sl.shape h2
  have hs10 := h4; have hs10l := Sl.len h4; obtain ⟨p8, q9, rfl⟩ := Sl.shape h4
  refine enter [(.agg #[(.slice p5 A_a.places.length q6), (.slice p8 A_a.tris.length q9)]), (Iv left), Ud, Ud, Ud, Ud, Ud, Ud, Ud, Ud, Ud, Ud, Ud, Ud, Ud, Ud, Ud, Ud] Try.func7 rfl Try.ntmps7 rfl ?_
  refine wp_seq_k fun K11 hK11 => ?_
  refine wp_region_lit ?_
  refine seqd rfl rfl (does_box (u := (.agg #[(.slice p5 A_a.places.length q6), (.slice p8 A_a.tris.length q9)])) (ev rfl)) ?_; rintro _ w16 ⟨b12, rfl, hb13, hB14, E15⟩
  have g17 : w.heap.size ≤ b12 := Nat.le_trans (Below.size (Ext.refl w)) hb13
  change Blk _ _ [(.slice p5 A_a.places.length q6), (.slice p8 A_a.tris.length q9)] at hB14
  have X18 := Ext.gr (Ext.refl w) E15
  show wpList _ _ _ _ (fr [(.agg #[(.slice p5 A_a.places.length q6), (.slice p8 A_a.tris.length q9)]), (Iv left), (Pt b12 0), Ud, Ud, Ud, Ud, Ud, Ud, Ud, Ud, Ud, Ud, Ud, Ud, Ud, Ud, Ud]) _
  refine q_is (l' := [(.agg #[(.slice p5 A_a.places.length q6), (.slice p8 A_a.tris.length q9)]), (Iv left), (Pt b12 0), Ud, (Iv 0), Ud, Ud, Ud, Ud, Ud, Ud, Ud, Ud, Ud, Ud, Ud, Ud, Ud]) rfl rfl (does_assign (u := (Iv 0)) (ev rfl)) rfl ?_
  refine wpList_nil (hK11 _ _ ?_)
  refine wp_seq_k fun K19 hK19 => ?_
  refine wp_region_lit ?_
  refine q_is (l' := [(.agg #[(.slice p5 A_a.places.length q6), (.slice p8 A_a.tris.length q9)]), (Iv left), (Pt b12 0), Ud, (Iv 0), (Pt b12 0), Ud, Ud, Ud, Ud, Ud, Ud, Ud, Ud, Ud, Ud, Ud, Ud]) rfl rfl (does_fieldAddr (ev rfl) fa25_0) rfl ?_
  refine q_is (l' := [(.agg #[(.slice p5 A_a.places.length q6), (.slice p8 A_a.tris.length q9)]), (Iv left), (Pt b12 0), Ud, (Iv 0), (Pt b12 0), (.slice p5 A_a.places.length q6), Ud, Ud, Ud, Ud, Ud, Ud, Ud, Ud, Ud, Ud, Ud]) rfl rfl (does_load (u := (.slice p5 A_a.places.length q6)) (ev rfl) Try.isAgg22 (Cells.at (Blk.cells hB14) 0 rfl)) rfl ?_
  refine q_is (l' := [(.agg #[(.slice p5 A_a.places.length q6), (.slice p8 A_a.tris.length q9)]), (Iv left), (Pt b12 0), Ud, (Iv 0), (Pt b12 0), (.slice p5 A_a.places.length q6), (Iv left), Ud, Ud, Ud, Ud, Ud, Ud, Ud, Ud, Ud, Ud]) rfl rfl (does_move (u := (Iv left)) (ev rfl)) rfl ?_
  refine seqd rfl rfl (does_call (args := #[(.slice p5 A_a.places.length q6), (Iv left)]) cal23 (evs rfl) (c_laws_szVectorS (.slice p5 A_a.places.length q6) A_a.places left _ (Sl.ext hs7 RV3.mono X18) (by omega) (by omega))) ?_; rintro _ w21 ⟨E20, ⟨i22, rfl, h23⟩⟩
  have X24 := Ext.gr X18 E20
  show wpList _ _ _ _ (fr [(.agg #[(.slice p5 A_a.places.length q6), (.slice p8 A_a.tris.length q9)]), (Iv left), (Pt b12 0), Ud, (Iv 0), (Pt b12 0), (.slice p5 A_a.places.length q6), (Iv left), (Iv i22), Ud, Ud, Ud, Ud, Ud, Ud, Ud, Ud, Ud]) _
  refine q_is (l' := [(.agg #[(.slice p5 A_a.places.length q6), (.slice p8 A_a.tris.length q9)]), (Iv i22), (Pt b12 0), Ud, (Iv 0), (Pt b12 0), (.slice p5 A_a.places.length q6), (Iv left), (Iv i22), Ud, Ud, Ud, Ud, Ud, Ud, Ud, Ud, Ud]) rfl rfl (does_assign (u := (Iv i22)) (ev rfl)) rfl ?_
  refine wpList_nil (hK19 _ _ ?_)
  refine wp_seq_k fun K25 hK25 => ?_
  refine wp_seq_k fun K26 hK26 => ?_
  refine wp_region_lit ?_
  refine q_is (l' := [(.agg #[(.slice p5 A_a.places.length q6), (.slice p8 A_a.tris.length q9)]), (Iv i22), (Pt b12 0), Ud, (Iv 0), (Pt b12 0), (.slice p5 A_a.places.length q6), (Iv left), (Iv i22), (Iv i22), Ud, Ud, Ud, Ud, Ud, Ud, Ud, Ud]) rfl rfl (does_move (u := (Iv i22)) (ev rfl)) rfl ?_
  refine q_is (l' := [(.agg #[(.slice p5 A_a.places.length q6), (.slice p8 A_a.tris.length q9)]), (Iv i22), (Pt b12 0), Ud, (Iv 0), (Pt b12 0), (.slice p5 A_a.places.length q6), (Iv left), (Iv i22), (Iv i22), (Bo (icmp .lss i22 0)), Ud, Ud, Ud, Ud, Ud, Ud, Ud]) rfl rfl (does_icmp (p := i22) (q := 0) (.inr (.inr (.inl rfl))) (ev rfl) (ev rfl)) rfl ?_
  refine wpList_nil (hK26 _ _ ?_)
  refine wp_cond_split (t := icmp .lss i22 0) (ev rfl) (fun c27 => ?_) (fun c27 => ?_)
  · have c27' := c27
    (try simp only [icmp, Bool.and_eq_true, Bool.or_eq_true, Bool.and_eq_false_iff, Bool.or_eq_false_iff, Bool.not_eq_true', Bool.not_eq_false', decide_eq_true_eq, decide_eq_false_iff_not, beq_iff_eq, bne_iff_ne, beq_eq_false_iff_ne, bne_eq_false_iff_eq] at c27')
    refine wp_seq_k fun K28 hK28 => ?_
    refine wp_region_lit ?_
    refine q_is (l' := [(.agg #[(.slice p5 A_a.places.length q6), (.slice p8 A_a.tris.length q9)]), (Iv i22), (Pt b12 0), Ud, (Iv (-1)), (Pt b12 0), (.slice p5 A_a.places.length q6), (Iv left), (Iv i22), (Iv i22), (Bo (icmp .lss i22 0)), Ud, Ud, Ud, Ud, Ud, Ud, Ud]) rfl rfl (does_assign (u := (Iv (-1))) (ev rfl)) rfl ?_
    refine wpList_nil (hK28 _ _ ?_)
    refine wp_ret ?_
    dsimp only [Exit.then, Exit.inBlock]
    refine ret_val (v := (Iv (-1))) (res_T rfl (slot rfl)) X24 ?_
    have x29 : (-1) < 0 ∨ ((meTot A_a : Int) ≤ left ∧ (-1) = left - meTot A_a ∧ 0 ≤ (-1)) := by first | omega | (unfold meTot; omega)
    exact ⟨(-1), rfl, x29⟩
  have c27' := c27
  (try simp only [icmp, Bool.and_eq_true, Bool.or_eq_true, Bool.and_eq_false_iff, Bool.or_eq_false_iff, Bool.not_eq_true', Bool.not_eq_false', decide_eq_true_eq, decide_eq_false_iff_not, beq_iff_eq, bne_iff_ne, beq_eq_false_iff_ne, bne_eq_false_iff_eq] at c27')
  refine wp_skip (hK25 _ _ ?_)
  refine wp_seq_k fun K30 hK30 => ?_
  refine wp_region_lit ?_
  refine q_is (l' := [(.agg #[(.slice p5 A_a.places.length q6), (.slice p8 A_a.tris.length q9)]), (Iv i22), (Pt b12 0), Ud, (Iv 0), (Pt b12 0), (.slice p5 A_a.places.length q6), (Iv left), (Iv i22), (Iv i22), (Bo (icmp .lss i22 0)), (Pt b12 1), Ud, Ud, Ud, Ud, Ud, Ud]) rfl rfl (does_fieldAddr (ev rfl) fa25_1) rfl ?_
  refine q_is (l' := [(.agg #[(.slice p5 A_a.places.length q6), (.slice p8 A_a.tris.length q9)]), (Iv i22), (Pt b12 0), Ud, (Iv 0), (Pt b12 0), (.slice p5 A_a.places.length q6), (Iv left), (Iv i22), (Iv i22), (Bo (icmp .lss i22 0)), (Pt b12 1), (.slice p8 A_a.tris.length q9), Ud, Ud, Ud, Ud, Ud]) rfl rfl (does_load (u := (.slice p8 A_a.tris.length q9)) (ev rfl) Try.isAgg23 (Cells.at (Blk.cells (hB14.ext E20)) 1 rfl)) rfl ?_
  refine q_is (l' := [(.agg #[(.slice p5 A_a.places.length q6), (.slice p8 A_a.tris.length q9)]), (Iv i22), (Pt b12 0), Ud, (Iv 0), (Pt b12 0), (.slice p5 A_a.places.length q6), (Iv left), (Iv i22), (Iv i22), (Bo (icmp .lss i22 0)), (Pt b12 1), (.slice p8 A_a.tris.length q9), (Iv i22), Ud, Ud, Ud, Ud]) rfl rfl (does_move (u := (Iv i22)) (ev rfl)) rfl ?_
  refine seqd rfl rfl (does_call (args := #[(.slice p8 A_a.tris.length q9), (Iv i22)]) cal24 (evs rfl) (c_laws_szInt64SS (.slice p8 A_a.tris.length q9) A_a.tris i22 _ (Sl.ext hs10 (RS.mono RI.mono) X24) (by omega) (by omega))) ?_; rintro _ w32 ⟨E31, ⟨i33, rfl, h34⟩⟩
  have X35 := Ext.gr X24 E31
  show wpList _ _ _ _ (fr [(.agg #[(.slice p5 A_a.places.length q6), (.slice p8 A_a.tris.length q9)]), (Iv i22), (Pt b12 0), Ud, (Iv 0), (Pt b12 0), (.slice p5 A_a.places.length q6), (Iv left), (Iv i22), (Iv i22), (Bo (icmp .lss i22 0)), (Pt b12 1), (.slice p8 A_a.tris.length q9), (Iv i22), (Iv i33), Ud, Ud, Ud]) _
  refine q_is (l' := [(.agg #[(.slice p5 A_a.places.length q6), (.slice p8 A_a.tris.length q9)]), (Iv i33), (Pt b12 0), Ud, (Iv 0), (Pt b12 0), (.slice p5 A_a.places.length q6), (Iv left), (Iv i22), (Iv i22), (Bo (icmp .lss i22 0)), (Pt b12 1), (.slice p8 A_a.tris.length q9), (Iv i22), (Iv i33), Ud, Ud, Ud]) rfl rfl (does_assign (u := (Iv i33)) (ev rfl)) rfl ?_
  refine wpList_nil (hK30 _ _ ?_)
  refine wp_seq_k fun K36 hK36 => ?_
  refine wp_seq_k fun K37 hK37 => ?_
  refine wp_region_lit ?_
  refine q_is (l' := [(.agg #[(.slice p5 A_a.places.length q6), (.slice p8 A_a.tris.length q9)]), (Iv i33), (Pt b12 0), Ud, (Iv 0), (Pt b12 0), (.slice p5 A_a.places.length q6), (Iv left), (Iv i22), (Iv i22), (Bo (icmp .lss i22 0)), (Pt b12 1), (.slice p8 A_a.tris.length q9), (Iv i22), (Iv i33), (Iv i33), Ud, Ud]) rfl rfl (does_move (u := (Iv i33)) (ev rfl)) rfl ?_
  refine q_is (l' := [(.agg #[(.slice p5 A_a.places.length q6), (.slice p8 A_a.tris.length q9)]), (Iv i33), (Pt b12 0), Ud, (Iv 0), (Pt b12 0), (.slice p5 A_a.places.length q6), (Iv left), (Iv i22), (Iv i22), (Bo (icmp .lss i22 0)), (Pt b12 1), (.slice p8 A_a.tris.length q9), (Iv i22), (Iv i33), (Iv i33), (Bo (icmp .lss i33 0)), Ud]) rfl rfl (does_icmp (p := i33) (q := 0) (.inr (.inr (.inl rfl))) (ev rfl) (ev rfl)) rfl ?_
  refine wpList_nil (hK37 _ _ ?_)
  refine wp_cond_split (t := icmp .lss i33 0) (ev rfl) (fun c38 => ?_) (fun c38 => ?_)
  · have c38' := c38
    (try simp only [icmp, Bool.and_eq_true, Bool.or_eq_true, Bool.and_eq_false_iff, Bool.or_eq_false_iff, Bool.not_eq_true', Bool.not_eq_false', decide_eq_true_eq, decide_eq_false_iff_not, beq_iff_eq, bne_iff_ne, beq_eq_false_iff_ne, bne_eq_false_iff_eq] at c38')
    refine wp_seq_k fun K39 hK39 => ?_
    refine wp_region_lit ?_
    refine q_is (l' := [(.agg #[(.slice p5 A_a.places.length q6), (.slice p8 A_a.tris.length q9)]), (Iv i33), (Pt b12 0), Ud, (Iv (-1)), (Pt b12 0), (.slice p5 A_a.places.length q6), (Iv left), (Iv i22), (Iv i22), (Bo (icmp .lss i22 0)), (Pt b12 1), (.slice p8 A_a.tris.length q9), (Iv i22), (Iv i33), (Iv i33), (Bo (icmp .lss i33 0)), Ud]) rfl rfl (does_assign (u := (Iv (-1))) (ev rfl)) rfl ?_
    refine wpList_nil (hK39 _ _ ?_)
    refine wp_ret ?_
    dsimp only [Exit.then, Exit.inBlock]
    refine ret_val (v := (Iv (-1))) (res_T rfl (slot rfl)) X35 ?_
    have x40 : (-1) < 0 ∨ ((meTot A_a : Int) ≤ left ∧ (-1) = left - meTot A_a ∧ 0 ≤ (-1)) := by first | omega | (unfold meTot; omega)
    exact ⟨(-1), rfl, x40⟩
  have c38' := c38
  (try simp only [icmp, Bool.and_eq_true, Bool.or_eq_true, Bool.and_eq_false_iff, Bool.or_eq_false_iff, Bool.not_eq_true', Bool.not_eq_false', decide_eq_true_eq, decide_eq_false_iff_not, beq_iff_eq, bne_iff_ne, beq_eq_false_iff_ne, bne_eq_false_iff_eq] at c38')
  refine wp_skip (hK36 _ _ ?_)
  refine wp_seq_k fun K41 hK41 => ?_
  refine wp_region_lit ?_
  refine q_is (l' := [(.agg #[(.slice p5 A_a.places.length q6), (.slice p8 A_a.tris.length q9)]), (Iv i33), (Pt b12 0), Ud, (Iv 0), (Pt b12 0), (.slice p5 A_a.places.length q6), (Iv left), (Iv i22), (Iv i22), (Bo (icmp .lss i22 0)), (Pt b12 1), (.slice p8 A_a.tris.length q9), (Iv i22), (Iv i33), (Iv i33), (Bo (icmp .lss i33 0)), (Iv i33)]) rfl rfl (does_move (u := (Iv i33)) (ev rfl)) rfl ?_
  refine q_is (l' := [(.agg #[(.slice p5 A_a.places.length q6), (.slice p8 A_a.tris.length q9)]), (Iv i33), (Pt b12 0), Ud, (Iv i33), (Pt b12 0), (.slice p5 A_a.places.length q6), (Iv left), (Iv i22), (Iv i22), (Bo (icmp .lss i22 0)), (Pt b12 1), (.slice p8 A_a.tris.length q9), (Iv i22), (Iv i33), (Iv i33), (Bo (icmp .lss i33 0)), (Iv i33)]) rfl rfl (does_assign (u := (Iv i33)) (ev rfl)) rfl ?_
  refine wpList_nil (hK41 _ _ ?_)
  refine wp_ret ?_
  refine ret_val (v := (Iv i33)) (res_T rfl (slot rfl)) X35 ?_
  have x42 : i33 < 0 ∨ ((meTot A_a : Int) ≤ left ∧ i33 = left - meTot A_a ∧ 0 ≤ i33) := by first | omega | (unfold meTot; omega)
  exact ⟨i33, rfl, x42⟩

/- laws.toVector -/
theorem c_laws_toVector (a : List Value) (A_a : V3) (w : World) (hv_a : RV3 w A_a a) : Gives Try.prog 44 #[(.agg a.toArray)] w (fun v w' => ∃ cs_1 : List Value, v = (.agg cs_1.toArray) ∧ RV3 w A_a cs_1) := by
  obtain ⟨r1, r3, r5, rfl, h2, h4, h6⟩ := hv_a
  refine enter [(.agg #[(Fl r1), (Fl r3), (Fl r5)]), Ud, Ud, Ud, Ud, Ud, Ud, Ud, Ud, Ud, Ud, Ud, Ud, Ud] Try.func44 rfl Try.ntmps44 rfl ?_
  refine wp_seq_k fun K7 hK7 => ?_
  refine wp_region_lit ?_
  refine seqd rfl rfl (does_box (u := (.agg #[(Fl r1), (Fl r3), (Fl r5)])) (ev rfl)) ?_; rintro _ w12 ⟨b8, rfl, hb9, hB10, E11⟩
  have g13 : w.heap.size ≤ b8 := Nat.le_trans (Below.size (Ext.refl w)) hb9
  change Blk _ _ [(Fl r1), (Fl r3), (Fl r5)] at hB10
  have X14 := Ext.gr (Ext.refl w) E11
  show wpList _ _ _ _ (fr [(.agg #[(Fl r1), (Fl r3), (Fl r5)]), (Pt b8 0), Ud, Ud, Ud, Ud, Ud, Ud, Ud, Ud, Ud, Ud, Ud, Ud]) _
  refine seqd rfl rfl (does_alloc z57) ?_; rintro _ w19 ⟨b15, rfl, hb16, hB17, E18⟩
  have n20 : b8 < b15 := Nat.lt_of_lt_of_le (Blk.lt hB10) hb16
  have g21 : w.heap.size ≤ b15 := Nat.le_trans (Below.size X14) hb16
  change Blk _ _ [(Fl 0), (Fl 0), (Fl 0)] at hB17
  have X22 := Ext.gr X14 E18
  show wpList _ _ _ _ (fr [(.agg #[(Fl r1), (Fl r3), (Fl r5)]), (Pt b8 0), (Pt b15 0), Ud, Ud, Ud, Ud, Ud, Ud, Ud, Ud, Ud, Ud, Ud]) _
  refine wpList_nil (hK7 _ _ ?_)
  refine wp_seq_k fun K23 hK23 => ?_
  refine wp_region_lit ?_
  refine seqd rfl rfl (does_alloc z57) ?_; rintro _ w28 ⟨b24, rfl, hb25, hB26, E27⟩
  have n29 : b8 < b24 := Nat.lt_of_lt_of_le (Blk.lt (hB10.ext E18)) hb25
  have n30 : b15 < b24 := Nat.lt_of_lt_of_le (Blk.lt hB17) hb25
  have g31 : w.heap.size ≤ b24 := Nat.le_trans (Below.size X22) hb25
  change Blk _ _ [(Fl 0), (Fl 0), (Fl 0)] at hB26
  have X32 := Ext.gr X22 E27
  show wpList _ _ _ _ (fr [(.agg #[(Fl r1), (Fl r3), (Fl r5)]), (Pt b8 0), (Pt b15 0), (Pt b24 0), Ud, Ud, Ud, Ud, Ud, Ud, Ud, Ud, Ud, Ud]) _
  refine wpList_nil (hK23 _ _ ?_)
  refine wp_seq_k fun K33 hK33 => ?_
  refine wp_region_lit ?_
  refine q_is (l' := [(.agg #[(Fl r1), (Fl r3), (Fl r5)]), (Pt b8 0), (Pt b15 0), (Pt b24 0), (Pt b8 0), Ud, Ud, Ud, Ud, Ud, Ud, Ud, Ud, Ud]) rfl rfl (does_fieldAddr (ev rfl) fa69_0) rfl ?_
  refine q_is (l' := [(.agg #[(Fl r1), (Fl r3), (Fl r5)]), (Pt b8 0), (Pt b15 0), (Pt b24 0), (Pt b8 0), (Fl r1), Ud, Ud, Ud, Ud, Ud, Ud, Ud, Ud]) rfl rfl (does_load (u := (Fl r1)) (ev rfl) Try.isAgg55 (Cells.at (Blk.cells ((hB10.ext E18).ext E27)) 0 rfl)) rfl ?_
  refine q_is (l' := [(.agg #[(Fl r1), (Fl r3), (Fl r5)]), (Pt b8 0), (Pt b15 0), (Pt b24 0), (Pt b8 0), (Fl r1), (Pt b24 0), Ud, Ud, Ud, Ud, Ud, Ud, Ud]) rfl rfl (does_fieldAddr (ev rfl) fa57_0) rfl ?_
  refine seqn rfl rfl (does_store (n := 1) (cs := [(Fl 0), (Fl 0), (Fl 0)]) (u := (Fl r1)) (ev rfl) (ev rfl) Try.sizeOf55 rfl hB26 (Nat.le_of_ble_eq_true rfl) rfl) ?_; rintro _ w36 ⟨rfl, W34, hB35⟩
  change Blk _ _ [(Fl r1), (Fl 0), (Fl 0)] at hB35
  have X37 := Below.wr X32 W34 g31
  refine wpList_nil (hK33 _ _ ?_)
  refine wp_seq_k fun K38 hK38 => ?_
  refine wp_region_lit ?_
  refine q_is (l' := [(.agg #[(Fl r1), (Fl r3), (Fl r5)]), (Pt b8 0), (Pt b15 0), (Pt b24 0), (Pt b8 0), (Fl r1), (Pt b24 0), (Pt b8 1), Ud, Ud, Ud, Ud, Ud, Ud]) rfl rfl (does_fieldAddr (ev rfl) fa69_1) rfl ?_
  refine q_is (l' := [(.agg #[(Fl r1), (Fl r3), (Fl r5)]), (Pt b8 0), (Pt b15 0), (Pt b24 0), (Pt b8 0), (Fl r1), (Pt b24 0), (Pt b8 1), (Fl r3), Ud, Ud, Ud, Ud, Ud]) rfl rfl (does_load (u := (Fl r3)) (ev rfl) Try.isAgg55 (Cells.at (Blk.cells (((hB10.ext E18).ext E27).wr W34 (Nat.ne_of_lt n29))) 1 rfl)) rfl ?_
  refine q_is (l' := [(.agg #[(Fl r1), (Fl r3), (Fl r5)]), (Pt b8 0), (Pt b15 0), (Pt b24 0), (Pt b8 0), (Fl r1), (Pt b24 0), (Pt b8 1), (Fl r3), (Pt b24 1), Ud, Ud, Ud, Ud]) rfl rfl (does_fieldAddr (ev rfl) fa57_1) rfl ?_
  refine seqn rfl rfl (does_store (n := 1) (cs := [(Fl r1), (Fl 0), (Fl 0)]) (u := (Fl r3)) (ev rfl) (ev rfl) Try.sizeOf55 rfl hB35 (Nat.le_of_ble_eq_true rfl) rfl) ?_; rintro _ w41 ⟨rfl, W39, hB40⟩
  change Blk _ _ [(Fl r1), (Fl r3), (Fl 0)] at hB40
  have X42 := Below.wr X37 W39 g31
  refine wpList_nil (hK38 _ _ ?_)
  refine wp_seq_k fun K43 hK43 => ?_
  refine wp_region_lit ?_
  refine q_is (l' := [(.agg #[(Fl r1), (Fl r3), (Fl r5)]), (Pt b8 0), (Pt b15 0), (Pt b24 0), (Pt b8 0), (Fl r1), (Pt b24 0), (Pt b8 1), (Fl r3), (Pt b24 1), (Pt b8 2), Ud, Ud, Ud]) rfl rfl (does_fieldAddr (ev rfl) fa69_2) rfl ?_
  refine q_is (l' := [(.agg #[(Fl r1), (Fl r3), (Fl r5)]), (Pt b8 0), (Pt b15 0), (Pt b24 0), (Pt b8 0), (Fl r1), (Pt b24 0), (Pt b8 1), (Fl r3), (Pt b24 1), (Pt b8 2), (Fl r5), Ud, Ud]) rfl rfl (does_load (u := (Fl r5)) (ev rfl) Try.isAgg55 (Cells.at (Blk.cells ((((hB10.ext E18).ext E27).wr W34 (Nat.ne_of_lt n29)).wr W39 (Nat.ne_of_lt n29))) 2 rfl)) rfl ?_
  refine q_is (l' := [(.agg #[(Fl r1), (Fl r3), (Fl r5)]), (Pt b8 0), (Pt b15 0), (Pt b24 0), (Pt b8 0), (Fl r1), (Pt b24 0), (Pt b8 1), (Fl r3), (Pt b24 1), (Pt b8 2), (Fl r5), (Pt b24 2), Ud]) rfl rfl (does_fieldAddr (ev rfl) fa57_2) rfl ?_
  refine seqn rfl rfl (does_store (n := 1) (cs := [(Fl r1), (Fl r3), (Fl 0)]) (u := (Fl r5)) (ev rfl) (ev rfl) Try.sizeOf55 rfl hB40 (Nat.le_of_ble_eq_true rfl) rfl) ?_; rintro _ w46 ⟨rfl, W44, hB45⟩
  change Blk _ _ [(Fl r1), (Fl r3), (Fl r5)] at hB45
  have X47 := Below.wr X42 W44 g31
  refine wpList_nil (hK43 _ _ ?_)
  refine wp_seq_k fun K48 hK48 => ?_
  refine wp_region_lit ?_
  refine q_is (l' := [(.agg #[(Fl r1), (Fl r3), (Fl r5)]), (Pt b8 0), (Pt b15 0), (Pt b24 0), (Pt b8 0), (Fl r1), (Pt b24 0), (Pt b8 1), (Fl r3), (Pt b24 1), (Pt b8 2), (Fl r5), (Pt b24 2), (.agg #[(Fl r1), (Fl r3), (Fl r5)])]) rfl rfl (does_loadAgg (cs := [(Fl r1), (Fl r3), (Fl r5)]) (ev rfl) Try.isAgg57 Try.sizeOf57 (Blk.cells hB45) rfl) rfl ?_
  refine seqn rfl rfl (does_store (n := 3) (cs := [(Fl 0), (Fl 0), (Fl 0)]) (u := (.agg #[(Fl r1), (Fl r3), (Fl r5)])) (ev rfl) (ev rfl) Try.sizeOf57 rfl ((((hB17.ext E27).wr W34 (Nat.ne_of_lt n30)).wr W39 (Nat.ne_of_lt n30)).wr W44 (Nat.ne_of_lt n30)) (Nat.le_of_ble_eq_true rfl) rfl) ?_; rintro _ w51 ⟨rfl, W49, hB50⟩
  change Blk _ _ [(Fl r1), (Fl r3), (Fl r5)] at hB50
  have X52 := Below.wr X47 W49 g21
  refine wpList_nil (hK48 _ _ ?_)
  refine wp_ret ?_
  refine ret_val (v := (.agg #[(Fl r1), (Fl r3), (Fl r5)])) (res_C rfl (slot rfl) (run_loadAgg (cs := [(Fl r1), (Fl r3), (Fl r5)]) Try.isAgg57 Try.sizeOf57 (Blk.cells hB50) rfl)) X52 ?_
  exact ⟨[(Fl r1), (Fl r3), (Fl r5)], rfl, ⟨r1, r3, r5, rfl, h2, h4, h6⟩⟩

/- laws.toVectorS -/
theorem c_laws_toVectorS (a : Value) (L_a : List V3) (w : World) (hv_a : Sl RV3 3 w a L_a) (hsz : L_a.length ≤ 1048576) : Gives Try.prog 27 #[a] w (fun v w' => ∃ y_1 : Value, ∃ Lw_2 : List Nat, v = y_1 ∧ Hang w.heap.size w' (fun u => Sl RV3 3 u y_1 L_a) ∧ WL 3 w.heap.size w' Lw_2 y_1 L_a.length) := by
  have hlen_a := Sl.len hv_a; obtain ⟨p_a, q_a, rfl⟩ := Sl.shape hv_a
  refine enter [(.slice p_a L_a.length q_a), Ud, Ud, Ud, Ud, Ud, Ud, Ud, Ud, Ud, Ud, Ud, Ud, Ud, Ud, Ud, Ud, Ud, Ud, Ud, Ud, Ud, Ud] Try.func27 rfl Try.ntmps27 rfl ?_
  refine wp_seq_k fun K1 hK1 => ?_
  refine wp_region_lit ?_
  refine q_is (l' := [(.slice p_a L_a.length q_a), Ud, (.slice none 0 0), Ud, Ud, Ud, Ud, Ud, Ud, Ud, Ud, Ud, Ud, Ud, Ud, Ud, Ud, Ud, Ud, Ud, Ud, Ud, Ud]) rfl rfl (does_assign (u := (.slice none 0 0)) (ev rfl)) rfl ?_
  refine wpList_nil (hK1 _ _ ?_)
  refine wp_seq_k fun K2 hK2 => ?_
  refine wp_region_lit ?_
  refine q_is (l' := [(.slice p_a L_a.length q_a), Ud, (.slice none 0 0), Ud, Ud, (.slice p_a L_a.length q_a), Ud, Ud, Ud, Ud, Ud, Ud, Ud, Ud, Ud, Ud, Ud, Ud, Ud, Ud, Ud, Ud, Ud]) rfl rfl (does_move (u := (.slice p_a L_a.length q_a)) (ev rfl)) rfl ?_
  refine q_is (l' := [(.slice p_a L_a.length q_a), Ud, (.slice none 0 0), Ud, Ud, (.slice p_a L_a.length q_a), (Iv (L_a.length : Int)), Ud, Ud, Ud, Ud, Ud, Ud, Ud, Ud, Ud, Ud, Ud, Ud, Ud, Ud, Ud, Ud]) rfl rfl (does_len_slice Try.underlying22 (ev rfl)) rfl ?_
  refine seqd rfl rfl (does_makeSlice (n := L_a.length) Try.underlying30 inf57 (ev rfl) (ev rfl) (by omega)) ?_; rintro _ w7 ⟨b3, rfl, hb4, ⟨cs8, hB5, hl9, hz10⟩, E6⟩
  have g11 : w.heap.size ≤ b3 := Nat.le_trans (Below.size (Ext.refl w)) hb4
  have X12 := Ext.gr (Ext.refl w) E6
  show wpList _ _ _ _ (fr [(.slice p_a L_a.length q_a), Ud, (.slice none 0 0), Ud, Ud, (.slice p_a L_a.length q_a), (Iv (L_a.length : Int)), (.slice (some ⟨b3, 0, none⟩) L_a.length L_a.length), Ud, Ud, Ud, Ud, Ud, Ud, Ud, Ud, Ud, Ud, Ud, Ud, Ud, Ud, Ud]) _
  refine q_is (l' := [(.slice p_a L_a.length q_a), Ud, (.slice none 0 0), (.slice (some ⟨b3, 0, none⟩) L_a.length L_a.length), Ud, (.slice p_a L_a.length q_a), (Iv (L_a.length : Int)), (.slice (some ⟨b3, 0, none⟩) L_a.length L_a.length), Ud, Ud, Ud, Ud, Ud, Ud, Ud, Ud, Ud, Ud, Ud, Ud, Ud, Ud, Ud]) rfl rfl (does_assign (u := (.slice (some ⟨b3, 0, none⟩) L_a.length L_a.length)) (ev rfl)) rfl ?_
  refine wpList_nil (hK2 _ _ ?_)
  refine wp_seq_k fun K13 hK13 => ?_
  refine wp_seq_k fun K14 hK14 => ?_
  refine wp_region_lit ?_
  refine q_is (l' := [(.slice p_a L_a.length q_a), Ud, (.slice none 0 0), (.slice (some ⟨b3, 0, none⟩) L_a.length L_a.length), (Iv 0), (.slice p_a L_a.length q_a), (Iv (L_a.length : Int)), (.slice (some ⟨b3, 0, none⟩) L_a.length L_a.length), Ud, Ud, Ud, Ud, Ud, Ud, Ud, Ud, Ud, Ud, Ud, Ud, Ud, Ud, Ud]) rfl rfl (does_assign (u := (Iv 0)) (ev rfl)) rfl ?_
  refine wpList_nil (hK14 _ _ ?_)
  refine wp_block ?_
  have hF0 : Fill RV3 3 w7 b3 L_a.length L_a 0 := Fill.zero hB5 hl9
  refine loop_ghost (σ := Nat) (fun k a w' => ∃ u15 : Nat → Value, a = fr [(.slice p_a L_a.length q_a), Ud, (.slice none 0 0), (.slice (some ⟨b3, 0, none⟩) L_a.length L_a.length), (Iv (k : Int)), (.slice p_a L_a.length q_a), (Iv (L_a.length : Int)), (.slice (some ⟨b3, 0, none⟩) L_a.length L_a.length), (u15 8), (u15 9), (u15 10), (u15 11), (u15 12), (u15 13), (u15 14), (u15 15), (u15 16), (u15 17), (u15 18), (u15 19), (u15 20), (u15 21), Ud] ∧ KpL [b3] w7 w' ∧ Fill RV3 3 w' b3 L_a.length L_a k ∧ (k ≤ L_a.length)) (fun k => L_a.length - k) 0 ?_ ?_
  · refine ⟨fun t => (([(.slice p_a L_a.length q_a), Ud, (.slice none 0 0), (.slice (some ⟨b3, 0, none⟩) L_a.length L_a.length), (Iv 0), (.slice p_a L_a.length q_a), (Iv (L_a.length : Int)), (.slice (some ⟨b3, 0, none⟩) L_a.length L_a.length), Ud, Ud, Ud, Ud, Ud, Ud, Ud, Ud, Ud, Ud, Ud, Ud, Ud, Ud, Ud] : List Value)[t]?).getD undef, rfl, KpL.refl _ _, hF0, ?_⟩
    exact Nat.zero_le _
  · rintro k a w16 ⟨u15, rfl, E17, hF18, hk⟩
    have X19 := Below.kl X12 E17 (allS g11 all0) (Nat.le_refl _)
    refine wp_seq_k fun K20 hK20 => ?_
    refine wp_seq_k fun K21 hK21 => ?_
    refine wp_region_lit ?_
    refine q_is (l' := [(.slice p_a L_a.length q_a), Ud, (.slice none 0 0), (.slice (some ⟨b3, 0, none⟩) L_a.length L_a.length), (Iv (k : Int)), (.slice p_a L_a.length q_a), (Iv (L_a.length : Int)), (.slice (some ⟨b3, 0, none⟩) L_a.length L_a.length), (Iv (k : Int)), (u15 9), (u15 10), (u15 11), (u15 12), (u15 13), (u15 14), (u15 15), (u15 16), (u15 17), (u15 18), (u15 19), (u15 20), (u15 21), Ud]) rfl rfl (does_move (u := (Iv (k : Int))) (ev rfl)) rfl ?_
    refine q_is (l' := [(.slice p_a L_a.length q_a), Ud, (.slice none 0 0), (.slice (some ⟨b3, 0, none⟩) L_a.length L_a.length), (Iv (k : Int)), (.slice p_a L_a.length q_a), (Iv (L_a.length : Int)), (.slice (some ⟨b3, 0, none⟩) L_a.length L_a.length), (Iv (k : Int)), (.slice p_a L_a.length q_a), (u15 10), (u15 11), (u15 12), (u15 13), (u15 14), (u15 15), (u15 16), (u15 17), (u15 18), (u15 19), (u15 20), (u15 21), Ud]) rfl rfl (does_move (u := (.slice p_a L_a.length q_a)) (ev rfl)) rfl ?_
    refine q_is (l' := [(.slice p_a L_a.length q_a), Ud, (.slice none 0 0), (.slice (some ⟨b3, 0, none⟩) L_a.length L_a.length), (Iv (k : Int)), (.slice p_a L_a.length q_a), (Iv (L_a.length : Int)), (.slice (some ⟨b3, 0, none⟩) L_a.length L_a.length), (Iv (k : Int)), (.slice p_a L_a.length q_a), (Iv (L_a.length : Int)), (u15 11), (u15 12), (u15 13), (u15 14), (u15 15), (u15 16), (u15 17), (u15 18), (u15 19), (u15 20), (u15 21), Ud]) rfl rfl (does_len_slice Try.underlying22 (ev rfl)) rfl ?_
    refine q_is (l' := [(.slice p_a L_a.length q_a), Ud, (.slice none 0 0), (.slice (some ⟨b3, 0, none⟩) L_a.length L_a.length), (Iv (k : Int)), (.slice p_a L_a.length q_a), (Iv (L_a.length : Int)), (.slice (some ⟨b3, 0, none⟩) L_a.length L_a.length), (Iv (k : Int)), (.slice p_a L_a.length q_a), (Iv (L_a.length : Int)), (Bo (icmp .lss (k : Int) (L_a.length : Int))), (u15 12), (u15 13), (u15 14), (u15 15), (u15 16), (u15 17), (u15 18), (u15 19), (u15 20), (u15 21), Ud]) rfl rfl (does_icmp (p := (k : Int)) (q := (L_a.length : Int)) (.inr (.inr (.inl rfl))) (ev rfl) (ev rfl)) rfl ?_
    refine wpList_nil (hK21 _ _ ?_)
    refine wp_cond_split (t := icmp .lss (k : Int) (L_a.length : Int)) (ev rfl) (fun c22 => ?_) (fun c22 => ?_)
    · have c22' := c22
      (try simp only [icmp, Bool.and_eq_true, Bool.or_eq_true, Bool.and_eq_false_iff, Bool.or_eq_false_iff, Bool.not_eq_true', Bool.not_eq_false', decide_eq_true_eq, decide_eq_false_iff_not, beq_iff_eq, bne_iff_ne, beq_eq_false_iff_ne, bne_eq_false_iff_eq] at c22')
      refine wp_skip (hK20 _ _ ?_)
      refine wp_seq_k fun K23 hK23 => ?_
      refine wp_block ?_
      refine wp_region_lit ?_
      refine q_is (l' := [(.slice p_a L_a.length q_a), Ud, (.slice none 0 0), (.slice (some ⟨b3, 0, none⟩) L_a.length L_a.length), (Iv (k : Int)), (.slice p_a L_a.length q_a), (Iv (L_a.length : Int)), (.slice (some ⟨b3, 0, none⟩) L_a.length L_a.length), (Iv (k : Int)), (.slice p_a L_a.length q_a), (Iv (L_a.length : Int)), (Bo (icmp .lss (k : Int) (L_a.length : Int))), (u15 12), (u15 13), (.slice (some ⟨b3, 0, none⟩) L_a.length L_a.length), (u15 15), (u15 16), (u15 17), (u15 18), (u15 19), (u15 20), (u15 21), Ud]) rfl rfl (does_move (u := (.slice (some ⟨b3, 0, none⟩) L_a.length L_a.length)) (ev rfl)) rfl ?_
      refine q_is (l' := [(.slice p_a L_a.length q_a), Ud, (.slice none 0 0), (.slice (some ⟨b3, 0, none⟩) L_a.length L_a.length), (Iv (k : Int)), (.slice p_a L_a.length q_a), (Iv (L_a.length : Int)), (.slice (some ⟨b3, 0, none⟩) L_a.length L_a.length), (Iv (k : Int)), (.slice p_a L_a.length q_a), (Iv (L_a.length : Int)), (Bo (icmp .lss (k : Int) (L_a.length : Int))), (u15 12), (u15 13), (.slice (some ⟨b3, 0, none⟩) L_a.length L_a.length), (Iv (k : Int)), (u15 16), (u15 17), (u15 18), (u15 19), (u15 20), (u15 21), Ud]) rfl rfl (does_move (u := (Iv (k : Int))) (ev rfl)) rfl ?_
      refine q_is (l' := [(.slice p_a L_a.length q_a), Ud, (.slice none 0 0), (.slice (some ⟨b3, 0, none⟩) L_a.length L_a.length), (Iv (k : Int)), (.slice p_a L_a.length q_a), (Iv (L_a.length : Int)), (.slice (some ⟨b3, 0, none⟩) L_a.length L_a.length), (Iv (k : Int)), (.slice p_a L_a.length q_a), (Iv (L_a.length : Int)), (Bo (icmp .lss (k : Int) (L_a.length : Int))), (u15 12), (u15 13), (.slice (some ⟨b3, 0, none⟩) L_a.length L_a.length), (Iv (k : Int)), (.slice p_a L_a.length q_a), (u15 17), (u15 18), (u15 19), (u15 20), (u15 21), Ud]) rfl rfl (does_move (u := (.slice p_a L_a.length q_a)) (ev rfl)) rfl ?_
      refine q_is (l' := [(.slice p_a L_a.length q_a), Ud, (.slice none 0 0), (.slice (some ⟨b3, 0, none⟩) L_a.length L_a.length), (Iv (k : Int)), (.slice p_a L_a.length q_a), (Iv (L_a.length : Int)), (.slice (some ⟨b3, 0, none⟩) L_a.length L_a.length), (Iv (k : Int)), (.slice p_a L_a.length q_a), (Iv (L_a.length : Int)), (Bo (icmp .lss (k : Int) (L_a.length : Int))), (u15 12), (u15 13), (.slice (some ⟨b3, 0, none⟩) L_a.length L_a.length), (Iv (k : Int)), (.slice p_a L_a.length q_a), (Iv (k : Int)), (u15 18), (u15 19), (u15 20), (u15 21), Ud]) rfl rfl (does_move (u := (Iv (k : Int))) (ev rfl)) rfl ?_
      obtain ⟨el1, hel1⟩ : ∃ e, L_a[k]? = some e := ⟨_, List.getElem?_eq_getElem (by omega)⟩
      refine seqd rfl rfl (does_indexSl (R := RV3) (i := (k : Int)) (xs := L_a) (e := el1) Try.underlying22 Try.sizeOf69 (ev rfl) (ev rfl) (Sl.ext hv_a RV3.mono X19) (by omega) hel1) ?_; rintro _ w16 ⟨b24, o25, _, rfl, hc27, ⟨r28, r30, r32, rfl, h29, h31, h33⟩, rfl⟩
      show wpList _ _ _ _ (fr [(.slice p_a L_a.length q_a), Ud, (.slice none 0 0), (.slice (some ⟨b3, 0, none⟩) L_a.length L_a.length), (Iv (k : Int)), (.slice p_a L_a.length q_a), (Iv (L_a.length : Int)), (.slice (some ⟨b3, 0, none⟩) L_a.length L_a.length), (Iv (k : Int)), (.slice p_a L_a.length q_a), (Iv (L_a.length : Int)), (Bo (icmp .lss (k : Int) (L_a.length : Int))), (u15 12), (u15 13), (.slice (some ⟨b3, 0, none⟩) L_a.length L_a.length), (Iv (k : Int)), (.slice p_a L_a.length q_a), (Iv (k : Int)), (Pt b24 o25), (u15 19), (u15 20), (u15 21), Ud]) _
      refine q_is (l' := [(.slice p_a L_a.length q_a), Ud, (.slice none 0 0), (.slice (some ⟨b3, 0, none⟩) L_a.length L_a.length), (Iv (k : Int)), (.slice p_a L_a.length q_a), (Iv (L_a.length : Int)), (.slice (some ⟨b3, 0, none⟩) L_a.length L_a.length), (Iv (k : Int)), (.slice p_a L_a.length q_a), (Iv (L_a.length : Int)), (Bo (icmp .lss (k : Int) (L_a.length : Int))), (u15 12), (u15 13), (.slice (some ⟨b3, 0, none⟩) L_a.length L_a.length), (Iv (k : Int)), (.slice p_a L_a.length q_a), (Iv (k : Int)), (Pt b24 o25), (.agg #[(Fl r28), (Fl r30), (Fl r32)]), (u15 20), (u15 21), Ud]) rfl rfl (does_loadAgg (cs := [(Fl r28), (Fl r30), (Fl r32)]) (ev rfl) Try.isAgg69 Try.sizeOf69 hc27 rfl) rfl ?_
      refine seqd rfl rfl (does_call (args := #[(.agg #[(Fl r28), (Fl r30), (Fl r32)])]) cal44 (evs rfl) (c_laws_toVector [(Fl r28), (Fl r30), (Fl r32)] el1 _ ⟨r28, r30, r32, rfl, h29, h31, h33⟩)) ?_; rintro _ w35 ⟨E34, ⟨_, rfl, ⟨r36, r38, r40, rfl, h37, h39, h41⟩⟩⟩
      have X42 := Ext.gr X19 E34
      show wpList _ _ _ _ (fr [(.slice p_a L_a.length q_a), Ud, (.slice none 0 0), (.slice (some ⟨b3, 0, none⟩) L_a.length L_a.length), (Iv (k : Int)), (.slice p_a L_a.length q_a), (Iv (L_a.length : Int)), (.slice (some ⟨b3, 0, none⟩) L_a.length L_a.length), (Iv (k : Int)), (.slice p_a L_a.length q_a), (Iv (L_a.length : Int)), (Bo (icmp .lss (k : Int) (L_a.length : Int))), (u15 12), (u15 13), (.slice (some ⟨b3, 0, none⟩) L_a.length L_a.length), (Iv (k : Int)), (.slice p_a L_a.length q_a), (Iv (k : Int)), (Pt b24 o25), (.agg #[(Fl r28), (Fl r30), (Fl r32)]), (.agg #[(Fl r36), (Fl r38), (Fl r40)]), (u15 21), Ud]) _
      refine q_is (l' := [(.slice p_a L_a.length q_a), Ud, (.slice none 0 0), (.slice (some ⟨b3, 0, none⟩) L_a.length L_a.length), (Iv (k : Int)), (.slice p_a L_a.length q_a), (Iv (L_a.length : Int)), (.slice (some ⟨b3, 0, none⟩) L_a.length L_a.length), (Iv (k : Int)), (.slice p_a L_a.length q_a), (Iv (L_a.length : Int)), (Bo (icmp .lss (k : Int) (L_a.length : Int))), (u15 12), (u15 13), (.slice (some ⟨b3, 0, none⟩) L_a.length L_a.length), (Iv (k : Int)), (.slice p_a L_a.length q_a), (Iv (k : Int)), (Pt b24 o25), (.agg #[(Fl r28), (Fl r30), (Fl r32)]), (.agg #[(Fl r36), (Fl r38), (Fl r40)]), (Pt b3 (k * 3)), Ud]) rfl rfl (does_indexOwn (b := b3) (n := L_a.length) (i := (k : Int)) Try.underlying30 Try.sizeOf57 (ev rfl) (ev rfl) (by omega) (by omega)) rfl ?_
      refine seqn rfl rfl (does_fill (R := RV3) (k := 3) (n := L_a.length) (j := k) (xs := L_a) (u := (.agg #[(Fl r36), (Fl r38), (Fl r40)])) (e := el1) (ev rfl) (ev rfl) Try.sizeOf57 rfl rfl (Fill.ext hF18 RV3.mono E34) (by omega) hel1 (fun _ => ⟨r36, r38, r40, rfl, h37, h39, h41⟩) (fun _ _ _ _ h => h)) ?_; rintro _ w45 ⟨rfl, W43, hF44⟩
      have X46 := Below.wr X42 W43 g11
      refine wpList_nil (hK23 _ _ ?_)
      refine wp_region_lit ?_
      refine q_is (l' := [(.slice p_a L_a.length q_a), Ud, (.slice none 0 0), (.slice (some ⟨b3, 0, none⟩) L_a.length L_a.length), (Iv (k : Int)), (.slice p_a L_a.length q_a), (Iv (L_a.length : Int)), (.slice (some ⟨b3, 0, none⟩) L_a.length L_a.length), (Iv (k : Int)), (.slice p_a L_a.length q_a), (Iv (L_a.length : Int)), (Bo (icmp .lss (k : Int) (L_a.length : Int))), (Iv (k : Int)), (u15 13), (.slice (some ⟨b3, 0, none⟩) L_a.length L_a.length), (Iv (k : Int)), (.slice p_a L_a.length q_a), (Iv (k : Int)), (Pt b24 o25), (.agg #[(Fl r28), (Fl r30), (Fl r32)]), (.agg #[(Fl r36), (Fl r38), (Fl r40)]), (Pt b3 (k * 3)), Ud]) rfl rfl (does_move (u := (Iv (k : Int))) (ev rfl)) rfl ?_
      refine q_is (l' := [(.slice p_a L_a.length q_a), Ud, (.slice none 0 0), (.slice (some ⟨b3, 0, none⟩) L_a.length L_a.length), (Iv (k : Int)), (.slice p_a L_a.length q_a), (Iv (L_a.length : Int)), (.slice (some ⟨b3, 0, none⟩) L_a.length L_a.length), (Iv (k : Int)), (.slice p_a L_a.length q_a), (Iv (L_a.length : Int)), (Bo (icmp .lss (k : Int) (L_a.length : Int))), (Iv (k : Int)), (Iv ((k : Int) + 1)), (.slice (some ⟨b3, 0, none⟩) L_a.length L_a.length), (Iv (k : Int)), (.slice p_a L_a.length q_a), (Iv (k : Int)), (Pt b24 o25), (.agg #[(Fl r28), (Fl r30), (Fl r32)]), (.agg #[(Fl r36), (Fl r38), (Fl r40)]), (Pt b3 (k * 3)), Ud]) rfl rfl (does_iarith (p := (k : Int)) (q := 1) (r := (k : Int) + 1) (ev rfl) (ev rfl) (.inl ⟨rfl, (in_i64 (by omega) (by omega)).symm⟩)) rfl ?_
      refine q_is (l' := [(.slice p_a L_a.length q_a), Ud, (.slice none 0 0), (.slice (some ⟨b3, 0, none⟩) L_a.length L_a.length), (Iv ((k : Int) + 1)), (.slice p_a L_a.length q_a), (Iv (L_a.length : Int)), (.slice (some ⟨b3, 0, none⟩) L_a.length L_a.length), (Iv (k : Int)), (.slice p_a L_a.length q_a), (Iv (L_a.length : Int)), (Bo (icmp .lss (k : Int) (L_a.length : Int))), (Iv (k : Int)), (Iv ((k : Int) + 1)), (.slice (some ⟨b3, 0, none⟩) L_a.length L_a.length), (Iv (k : Int)), (.slice p_a L_a.length q_a), (Iv (k : Int)), (Pt b24 o25), (.agg #[(Fl r28), (Fl r30), (Fl r32)]), (.agg #[(Fl r36), (Fl r38), (Fl r40)]), (Pt b3 (k * 3)), Ud]) rfl rfl (does_assign (u := (Iv ((k : Int) + 1))) (ev rfl)) rfl ?_
      refine wpList_nil ?_
      refine ⟨k + 1, ⟨fun t => (([(.slice p_a L_a.length q_a), Ud, (.slice none 0 0), (.slice (some ⟨b3, 0, none⟩) L_a.length L_a.length), (Iv ((k : Int) + 1)), (.slice p_a L_a.length q_a), (Iv (L_a.length : Int)), (.slice (some ⟨b3, 0, none⟩) L_a.length L_a.length), (Iv (k : Int)), (.slice p_a L_a.length q_a), (Iv (L_a.length : Int)), (Bo (icmp .lss (k : Int) (L_a.length : Int))), (Iv (k : Int)), (Iv ((k : Int) + 1)), (.slice (some ⟨b3, 0, none⟩) L_a.length L_a.length), (Iv (k : Int)), (.slice p_a L_a.length q_a), (Iv (k : Int)), (Pt b24 o25), (.agg #[(Fl r28), (Fl r30), (Fl r32)]), (.agg #[(Fl r36), (Fl r38), (Fl r40)]), (Pt b3 (k * 3)), Ud] : List Value)[t]?).getD undef, ?_, (KpL.more (KpL.ext E17 E34) (KpL.of_wr W43) (allS (.inl (by simp)) all0)), hF44, ?_⟩, ?_⟩
      · first | rfl | (simp only [Int.natCast_add, Int.natCast_one]; rfl)
      · omega
      · omega
    have c22' := c22
    (try simp only [icmp, Bool.and_eq_true, Bool.or_eq_true, Bool.and_eq_false_iff, Bool.or_eq_false_iff, Bool.not_eq_true', Bool.not_eq_false', decide_eq_true_eq, decide_eq_false_iff_not, beq_iff_eq, bne_iff_ne, beq_eq_false_iff_ne, bne_eq_false_iff_eq] at c22')
    refine wp_exit ?_
    refine hK13 _ _ ?_
    refine wp_seq_k fun K47 hK47 => ?_
    refine wp_region_lit ?_
    refine q_is (l' := [(.slice p_a L_a.length q_a), Ud, (.slice none 0 0), (.slice (some ⟨b3, 0, none⟩) L_a.length L_a.length), (Iv (k : Int)), (.slice p_a L_a.length q_a), (Iv (L_a.length : Int)), (.slice (some ⟨b3, 0, none⟩) L_a.length L_a.length), (Iv (k : Int)), (.slice p_a L_a.length q_a), (Iv (L_a.length : Int)), (Bo (icmp .lss (k : Int) (L_a.length : Int))), (u15 12), (u15 13), (u15 14), (u15 15), (u15 16), (u15 17), (u15 18), (u15 19), (u15 20), (u15 21), (.slice (some ⟨b3, 0, none⟩) L_a.length L_a.length)]) rfl rfl (does_move (u := (.slice (some ⟨b3, 0, none⟩) L_a.length L_a.length)) (ev rfl)) rfl ?_
    refine q_is (l' := [(.slice p_a L_a.length q_a), Ud, (.slice (some ⟨b3, 0, none⟩) L_a.length L_a.length), (.slice (some ⟨b3, 0, none⟩) L_a.length L_a.length), (Iv (k : Int)), (.slice p_a L_a.length q_a), (Iv (L_a.length : Int)), (.slice (some ⟨b3, 0, none⟩) L_a.length L_a.length), (Iv (k : Int)), (.slice p_a L_a.length q_a), (Iv (L_a.length : Int)), (Bo (icmp .lss (k : Int) (L_a.length : Int))), (u15 12), (u15 13), (u15 14), (u15 15), (u15 16), (u15 17), (u15 18), (u15 19), (u15 20), (u15 21), (.slice (some ⟨b3, 0, none⟩) L_a.length L_a.length)]) rfl rfl (does_assign (u := (.slice (some ⟨b3, 0, none⟩) L_a.length L_a.length)) (ev rfl)) rfl ?_
    refine wpList_nil (hK47 _ _ ?_)
    refine wp_ret ?_
    refine ret_val (v := (.slice (some ⟨b3, 0, none⟩) L_a.length L_a.length)) (res_T rfl (slot rfl)) X19 ?_
    exact ⟨(.slice (some ⟨b3, 0, none⟩) L_a.length L_a.length), [b3], rfl, (Fill.hang hF18 RV3.flat g11 (by omega) rfl (by omega) (by decide)), (Fill.wl hF18 g11)⟩

/- laws.toInt64S -/
theorem c_laws_toInt64S (a : Value) (L_a : List Int) (w : World) (hv_a : Sl RI 1 w a L_a) (hsz : L_a.length ≤ 1048576) : Gives Try.prog 45 #[a] w (fun v w' => ∃ y_1 : Value, ∃ Lw_2 : List Nat, v = y_1 ∧ Hang w.heap.size w' (fun u => Sl RI 1 u y_1 L_a) ∧ WL 1 w.heap.size w' Lw_2 y_1 L_a.length) := by
  have hlen_a := Sl.len hv_a; obtain ⟨p_a, q_a, rfl⟩ := Sl.shape hv_a
  refine enter [(.slice p_a L_a.length q_a), Ud, Ud, Ud, Ud, Ud, Ud, Ud, Ud, Ud, Ud, Ud, Ud, Ud, Ud, Ud, Ud, Ud, Ud, Ud, Ud, Ud] Try.func45 rfl Try.ntmps45 rfl ?_
  refine wp_seq_k fun K1 hK1 => ?_
  refine wp_region_lit ?_
  refine q_is (l' := [(.slice p_a L_a.length q_a), Ud, (.slice none 0 0), Ud, Ud, Ud, Ud, Ud, Ud, Ud, Ud, Ud, Ud, Ud, Ud, Ud, Ud, Ud, Ud, Ud, Ud, Ud]) rfl rfl (does_assign (u := (.slice none 0 0)) (ev rfl)) rfl ?_
  refine wpList_nil (hK1 _ _ ?_)
  refine wp_seq_k fun K2 hK2 => ?_
  refine wp_region_lit ?_
  refine q_is (l' := [(.slice p_a L_a.length q_a), Ud, (.slice none 0 0), Ud, Ud, (.slice p_a L_a.length q_a), Ud, Ud, Ud, Ud, Ud, Ud, Ud, Ud, Ud, Ud, Ud, Ud, Ud, Ud, Ud, Ud]) rfl rfl (does_move (u := (.slice p_a L_a.length q_a)) (ev rfl)) rfl ?_
  refine q_is (l' := [(.slice p_a L_a.length q_a), Ud, (.slice none 0 0), Ud, Ud, (.slice p_a L_a.length q_a), (Iv (L_a.length : Int)), Ud, Ud, Ud, Ud, Ud, Ud, Ud, Ud, Ud, Ud, Ud, Ud, Ud, Ud, Ud]) rfl rfl (does_len_slice Try.underlying27 (ev rfl)) rfl ?_
  refine seqd rfl rfl (does_makeSlice (n := L_a.length) Try.underlying27 inf2 (ev rfl) (ev rfl) (by omega)) ?_; rintro _ w7 ⟨b3, rfl, hb4, ⟨cs8, hB5, hl9, hz10⟩, E6⟩
  have g11 : w.heap.size ≤ b3 := Nat.le_trans (Below.size (Ext.refl w)) hb4
  have X12 := Ext.gr (Ext.refl w) E6
  show wpList _ _ _ _ (fr [(.slice p_a L_a.length q_a), Ud, (.slice none 0 0), Ud, Ud, (.slice p_a L_a.length q_a), (Iv (L_a.length : Int)), (.slice (some ⟨b3, 0, none⟩) L_a.length L_a.length), Ud, Ud, Ud, Ud, Ud, Ud, Ud, Ud, Ud, Ud, Ud, Ud, Ud, Ud]) _
  refine q_is (l' := [(.slice p_a L_a.length q_a), Ud, (.slice none 0 0), (.slice (some ⟨b3, 0, none⟩) L_a.length L_a.length), Ud, (.slice p_a L_a.length q_a), (Iv (L_a.length : Int)), (.slice (some ⟨b3, 0, none⟩) L_a.length L_a.length), Ud, Ud, Ud, Ud, Ud, Ud, Ud, Ud, Ud, Ud, Ud, Ud, Ud, Ud]) rfl rfl (does_assign (u := (.slice (some ⟨b3, 0, none⟩) L_a.length L_a.length)) (ev rfl)) rfl ?_
  refine wpList_nil (hK2 _ _ ?_)
  refine wp_seq_k fun K13 hK13 => ?_
  refine wp_seq_k fun K14 hK14 => ?_
  refine wp_region_lit ?_
  refine q_is (l' := [(.slice p_a L_a.length q_a), Ud, (.slice none 0 0), (.slice (some ⟨b3, 0, none⟩) L_a.length L_a.length), (Iv 0), (.slice p_a L_a.length q_a), (Iv (L_a.length : Int)), (.slice (some ⟨b3, 0, none⟩) L_a.length L_a.length), Ud, Ud, Ud, Ud, Ud, Ud, Ud, Ud, Ud, Ud, Ud, Ud, Ud, Ud]) rfl rfl (does_assign (u := (Iv 0)) (ev rfl)) rfl ?_
  refine wpList_nil (hK14 _ _ ?_)
  refine wp_block ?_
  have hF0 : Fill RI 1 w7 b3 L_a.length L_a 0 := Fill.zero hB5 hl9
  refine loop_ghost (σ := Nat) (fun k a w' => ∃ u15 : Nat → Value, a = fr [(.slice p_a L_a.length q_a), Ud, (.slice none 0 0), (.slice (some ⟨b3, 0, none⟩) L_a.length L_a.length), (Iv (k : Int)), (.slice p_a L_a.length q_a), (Iv (L_a.length : Int)), (.slice (some ⟨b3, 0, none⟩) L_a.length L_a.length), (u15 8), (u15 9), (u15 10), (u15 11), (u15 12), (u15 13), (u15 14), (u15 15), (u15 16), (u15 17), (u15 18), (u15 19), (u15 20), Ud] ∧ KpL [b3] w7 w' ∧ Fill RI 1 w' b3 L_a.length L_a k ∧ (k ≤ L_a.length)) (fun k => L_a.length - k) 0 ?_ ?_
  · refine ⟨fun t => (([(.slice p_a L_a.length q_a), Ud, (.slice none 0 0), (.slice (some ⟨b3, 0, none⟩) L_a.length L_a.length), (Iv 0), (.slice p_a L_a.length q_a), (Iv (L_a.length : Int)), (.slice (some ⟨b3, 0, none⟩) L_a.length L_a.length), Ud, Ud, Ud, Ud, Ud, Ud, Ud, Ud, Ud, Ud, Ud, Ud, Ud, Ud] : List Value)[t]?).getD undef, rfl, KpL.refl _ _, hF0, ?_⟩
    exact Nat.zero_le _
  · rintro k a w16 ⟨u15, rfl, E17, hF18, hk⟩
    have X19 := Below.kl X12 E17 (allS g11 all0) (Nat.le_refl _)
    refine wp_seq_k fun K20 hK20 => ?_
    refine wp_seq_k fun K21 hK21 => ?_
    refine wp_region_lit ?_
    refine q_is (l' := [(.slice p_a L_a.length q_a), Ud, (.slice none 0 0), (.slice (some ⟨b3, 0, none⟩) L_a.length L_a.length), (Iv (k : Int)), (.slice p_a L_a.length q_a), (Iv (L_a.length : Int)), (.slice (some ⟨b3, 0, none⟩) L_a.length L_a.length), (Iv (k : Int)), (u15 9), (u15 10), (u15 11), (u15 12), (u15 13), (u15 14), (u15 15), (u15 16), (u15 17), (u15 18), (u15 19), (u15 20), Ud]) rfl rfl (does_move (u := (Iv (k : Int))) (ev rfl)) rfl ?_
    refine q_is (l' := [(.slice p_a L_a.length q_a), Ud, (.slice none 0 0), (.slice (some ⟨b3, 0, none⟩) L_a.length L_a.length), (Iv (k : Int)), (.slice p_a L_a.length q_a), (Iv (L_a.length : Int)), (.slice (some ⟨b3, 0, none⟩) L_a.length L_a.length), (Iv (k : Int)), (.slice p_a L_a.length q_a), (u15 10), (u15 11), (u15 12), (u15 13), (u15 14), (u15 15), (u15 16), (u15 17), (u15 18), (u15 19), (u15 20), Ud]) rfl rfl (does_move (u := (.slice p_a L_a.length q_a)) (ev rfl)) rfl ?_
    refine q_is (l' := [(.slice p_a L_a.length q_a), Ud, (.slice none 0 0), (.slice (some ⟨b3, 0, none⟩) L_a.length L_a.length), (Iv (k : Int)), (.slice p_a L_a.length q_a), (Iv (L_a.length : Int)), (.slice (some ⟨b3, 0, none⟩) L_a.length L_a.length), (Iv (k : Int)), (.slice p_a L_a.length q_a), (Iv (L_a.length : Int)), (u15 11), (u15 12), (u15 13), (u15 14), (u15 15), (u15 16), (u15 17), (u15 18), (u15 19), (u15 20), Ud]) rfl rfl (does_len_slice Try.underlying27 (ev rfl)) rfl ?_
    refine q_is (l' := [(.slice p_a L_a.length q_a), Ud, (.slice none 0 0), (.slice (some ⟨b3, 0, none⟩) L_a.length L_a.length), (Iv (k : Int)), (.slice p_a L_a.length q_a), (Iv (L_a.length : Int)), (.slice (some ⟨b3, 0, none⟩) L_a.length L_a.length), (Iv (k : Int)), (.slice p_a L_a.length q_a), (Iv (L_a.length : Int)), (Bo (icmp .lss (k : Int) (L_a.length : Int))), (u15 12), (u15 13), (u15 14), (u15 15), (u15 16), (u15 17), (u15 18), (u15 19), (u15 20), Ud]) rfl rfl (does_icmp (p := (k : Int)) (q := (L_a.length : Int)) (.inr (.inr (.inl rfl))) (ev rfl) (ev rfl)) rfl ?_
    refine wpList_nil (hK21 _ _ ?_)
    refine wp_cond_split (t := icmp .lss (k : Int) (L_a.length : Int)) (ev rfl) (fun c22 => ?_) (fun c22 => ?_)
    · have c22' := c22
      (try simp only [icmp, Bool.and_eq_true, Bool.or_eq_true, Bool.and_eq_false_iff, Bool.or_eq_false_iff, Bool.not_eq_true', Bool.not_eq_false', decide_eq_true_eq, decide_eq_false_iff_not, beq_iff_eq, bne_iff_ne, beq_eq_false_iff_ne, bne_eq_false_iff_eq] at c22')
      refine wp_skip (hK20 _ _ ?_)
      refine wp_seq_k fun K23 hK23 => ?_
      refine wp_block ?_
      refine wp_region_lit ?_
      refine q_is (l' := [(.slice p_a L_a.length q_a), Ud, (.slice none 0 0), (.slice (some ⟨b3, 0, none⟩) L_a.length L_a.length), (Iv (k : Int)), (.slice p_a L_a.length q_a), (Iv (L_a.length : Int)), (.slice (some ⟨b3, 0, none⟩) L_a.length L_a.length), (Iv (k : Int)), (.slice p_a L_a.length q_a), (Iv (L_a.length : Int)), (Bo (icmp .lss (k : Int) (L_a.length : Int))), (u15 12), (u15 13), (.slice (some ⟨b3, 0, none⟩) L_a.length L_a.length), (u15 15), (u15 16), (u15 17), (u15 18), (u15 19), (u15 20), Ud]) rfl rfl (does_move (u := (.slice (some ⟨b3, 0, none⟩) L_a.length L_a.length)) (ev rfl)) rfl ?_
      refine q_is (l' := [(.slice p_a L_a.length q_a), Ud, (.slice none 0 0), (.slice (some ⟨b3, 0, none⟩) L_a.length L_a.length), (Iv (k : Int)), (.slice p_a L_a.length q_a), (Iv (L_a.length : Int)), (.slice (some ⟨b3, 0, none⟩) L_a.length L_a.length), (Iv (k : Int)), (.slice p_a L_a.length q_a), (Iv (L_a.length : Int)), (Bo (icmp .lss (k : Int) (L_a.length : Int))), (u15 12), (u15 13), (.slice (some ⟨b3, 0, none⟩) L_a.length L_a.length), (Iv (k : Int)), (u15 16), (u15 17), (u15 18), (u15 19), (u15 20), Ud]) rfl rfl (does_move (u := (Iv (k : Int))) (ev rfl)) rfl ?_
      refine q_is (l' := [(.slice p_a L_a.length q_a), Ud, (.slice none 0 0), (.slice (some ⟨b3, 0, none⟩) L_a.length L_a.length), (Iv (k : Int)), (.slice p_a L_a.length q_a), (Iv (L_a.length : Int)), (.slice (some ⟨b3, 0, none⟩) L_a.length L_a.length), (Iv (k : Int)), (.slice p_a L_a.length q_a), (Iv (L_a.length : Int)), (Bo (icmp .lss (k : Int) (L_a.length : Int))), (u15 12), (u15 13), (.slice (some ⟨b3, 0, none⟩) L_a.length L_a.length), (Iv (k : Int)), (.slice p_a L_a.length q_a), (u15 17), (u15 18), (u15 19), (u15 20), Ud]) rfl rfl (does_move (u := (.slice p_a L_a.length q_a)) (ev rfl)) rfl ?_
      refine q_is (l' := [(.slice p_a L_a.length q_a), Ud, (.slice none 0 0), (.slice (some ⟨b3, 0, none⟩) L_a.length L_a.length), (Iv (k : Int)), (.slice p_a L_a.length q_a), (Iv (L_a.length : Int)), (.slice (some ⟨b3, 0, none⟩) L_a.length L_a.length), (Iv (k : Int)), (.slice p_a L_a.length q_a), (Iv (L_a.length : Int)), (Bo (icmp .lss (k : Int) (L_a.length : Int))), (u15 12), (u15 13), (.slice (some ⟨b3, 0, none⟩) L_a.length L_a.length), (Iv (k : Int)), (.slice p_a L_a.length q_a), (Iv (k : Int)), (u15 18), (u15 19), (u15 20), Ud]) rfl rfl (does_move (u := (Iv (k : Int))) (ev rfl)) rfl ?_
      obtain ⟨el1, hel1⟩ : ∃ e, L_a[k]? = some e := ⟨_, List.getElem?_eq_getElem (by omega)⟩
      refine seqd rfl rfl (does_indexSl (R := RI) (i := (k : Int)) (xs := L_a) (e := el1) Try.underlying27 Try.sizeOf2 (ev rfl) (ev rfl) (Sl.ext hv_a RI.mono X19) (by omega) hel1) ?_; rintro _ w16 ⟨b24, o25, _, rfl, hc27, rfl, rfl⟩
      show wpList _ _ _ _ (fr [(.slice p_a L_a.length q_a), Ud, (.slice none 0 0), (.slice (some ⟨b3, 0, none⟩) L_a.length L_a.length), (Iv (k : Int)), (.slice p_a L_a.length q_a), (Iv (L_a.length : Int)), (.slice (some ⟨b3, 0, none⟩) L_a.length L_a.length), (Iv (k : Int)), (.slice p_a L_a.length q_a), (Iv (L_a.length : Int)), (Bo (icmp .lss (k : Int) (L_a.length : Int))), (u15 12), (u15 13), (.slice (some ⟨b3, 0, none⟩) L_a.length L_a.length), (Iv (k : Int)), (.slice p_a L_a.length q_a), (Iv (k : Int)), (Pt b24 o25), (u15 19), (u15 20), Ud]) _
      refine q_is (l' := [(.slice p_a L_a.length q_a), Ud, (.slice none 0 0), (.slice (some ⟨b3, 0, none⟩) L_a.length L_a.length), (Iv (k : Int)), (.slice p_a L_a.length q_a), (Iv (L_a.length : Int)), (.slice (some ⟨b3, 0, none⟩) L_a.length L_a.length), (Iv (k : Int)), (.slice p_a L_a.length q_a), (Iv (L_a.length : Int)), (Bo (icmp .lss (k : Int) (L_a.length : Int))), (u15 12), (u15 13), (.slice (some ⟨b3, 0, none⟩) L_a.length L_a.length), (Iv (k : Int)), (.slice p_a L_a.length q_a), (Iv (k : Int)), (Pt b24 o25), (Iv el1), (u15 20), Ud]) rfl rfl (does_load (u := (Iv el1)) (ev rfl) Try.isAgg2 (Cells.at hc27 0 rfl)) rfl ?_
      refine q_is (l' := [(.slice p_a L_a.length q_a), Ud, (.slice none 0 0), (.slice (some ⟨b3, 0, none⟩) L_a.length L_a.length), (Iv (k : Int)), (.slice p_a L_a.length q_a), (Iv (L_a.length : Int)), (.slice (some ⟨b3, 0, none⟩) L_a.length L_a.length), (Iv (k : Int)), (.slice p_a L_a.length q_a), (Iv (L_a.length : Int)), (Bo (icmp .lss (k : Int) (L_a.length : Int))), (u15 12), (u15 13), (.slice (some ⟨b3, 0, none⟩) L_a.length L_a.length), (Iv (k : Int)), (.slice p_a L_a.length q_a), (Iv (k : Int)), (Pt b24 o25), (Iv el1), (Pt b3 (k * 1)), Ud]) rfl rfl (does_indexOwn (b := b3) (n := L_a.length) (i := (k : Int)) Try.underlying27 Try.sizeOf2 (ev rfl) (ev rfl) (by omega) (by omega)) rfl ?_
      refine seqn rfl rfl (does_fill (R := RI) (k := 1) (n := L_a.length) (j := k) (xs := L_a) (u := (Iv el1)) (e := el1) (ev rfl) (ev rfl) Try.sizeOf2 rfl rfl hF18 (by omega) hel1 (fun _ => rfl) (fun _ _ _ _ h => h)) ?_; rintro _ w30 ⟨rfl, W28, hF29⟩
      have X31 := Below.wr X19 W28 g11
      refine wpList_nil (hK23 _ _ ?_)
      refine wp_region_lit ?_
      refine q_is (l' := [(.slice p_a L_a.length q_a), Ud, (.slice none 0 0), (.slice (some ⟨b3, 0, none⟩) L_a.length L_a.length), (Iv (k : Int)), (.slice p_a L_a.length q_a), (Iv (L_a.length : Int)), (.slice (some ⟨b3, 0, none⟩) L_a.length L_a.length), (Iv (k : Int)), (.slice p_a L_a.length q_a), (Iv (L_a.length : Int)), (Bo (icmp .lss (k : Int) (L_a.length : Int))), (Iv (k : Int)), (u15 13), (.slice (some ⟨b3, 0, none⟩) L_a.length L_a.length), (Iv (k : Int)), (.slice p_a L_a.length q_a), (Iv (k : Int)), (Pt b24 o25), (Iv el1), (Pt b3 (k * 1)), Ud]) rfl rfl (does_move (u := (Iv (k : Int))) (ev rfl)) rfl ?_
      refine q_is (l' := [(.slice p_a L_a.length q_a), Ud, (.slice none 0 0), (.slice (some ⟨b3, 0, none⟩) L_a.length L_a.length), (Iv (k : Int)), (.slice p_a L_a.length q_a), (Iv (L_a.length : Int)), (.slice (some ⟨b3, 0, none⟩) L_a.length L_a.length), (Iv (k : Int)), (.slice p_a L_a.length q_a), (Iv (L_a.length : Int)), (Bo (icmp .lss (k : Int) (L_a.length : Int))), (Iv (k : Int)), (Iv ((k : Int) + 1)), (.slice (some ⟨b3, 0, none⟩) L_a.length L_a.length), (Iv (k : Int)), (.slice p_a L_a.length q_a), (Iv (k : Int)), (Pt b24 o25), (Iv el1), (Pt b3 (k * 1)), Ud]) rfl rfl (does_iarith (p := (k : Int)) (q := 1) (r := (k : Int) + 1) (ev rfl) (ev rfl) (.inl ⟨rfl, (in_i64 (by omega) (by omega)).symm⟩)) rfl ?_
      refine q_is (l' := [(.slice p_a L_a.length q_a), Ud, (.slice none 0 0), (.slice (some ⟨b3, 0, none⟩) L_a.length L_a.length), (Iv ((k : Int) + 1)), (.slice p_a L_a.length q_a), (Iv (L_a.length : Int)), (.slice (some ⟨b3, 0, none⟩) L_a.length L_a.length), (Iv (k : Int)), (.slice p_a L_a.length q_a), (Iv (L_a.length : Int)), (Bo (icmp .lss (k : Int) (L_a.length : Int))), (Iv (k : Int)), (Iv ((k : Int) + 1)), (.slice (some ⟨b3, 0, none⟩) L_a.length L_a.length), (Iv (k : Int)), (.slice p_a L_a.length q_a), (Iv (k : Int)), (Pt b24 o25), (Iv el1), (Pt b3 (k * 1)), Ud]) rfl rfl (does_assign (u := (Iv ((k : Int) + 1))) (ev rfl)) rfl ?_
      refine wpList_nil ?_
      refine ⟨k + 1, ⟨fun t => (([(.slice p_a L_a.length q_a), Ud, (.slice none 0 0), (.slice (some ⟨b3, 0, none⟩) L_a.length L_a.length), (Iv ((k : Int) + 1)), (.slice p_a L_a.length q_a), (Iv (L_a.length : Int)), (.slice (some ⟨b3, 0, none⟩) L_a.length L_a.length), (Iv (k : Int)), (.slice p_a L_a.length q_a), (Iv (L_a.length : Int)), (Bo (icmp .lss (k : Int) (L_a.length : Int))), (Iv (k : Int)), (Iv ((k : Int) + 1)), (.slice (some ⟨b3, 0, none⟩) L_a.length L_a.length), (Iv (k : Int)), (.slice p_a L_a.length q_a), (Iv (k : Int)), (Pt b24 o25), (Iv el1), (Pt b3 (k * 1)), Ud] : List Value)[t]?).getD undef, ?_, (KpL.more E17 (KpL.of_wr W28) (allS (.inl (by simp)) all0)), hF29, ?_⟩, ?_⟩
      · first | rfl | (simp only [Int.natCast_add, Int.natCast_one]; rfl)
      · omega
      · omega
    have c22' := c22
    (try simp only [icmp, Bool.and_eq_true, Bool.or_eq_true, Bool.and_eq_false_iff, Bool.or_eq_false_iff, Bool.not_eq_true', Bool.not_eq_false', decide_eq_true_eq, decide_eq_false_iff_not, beq_iff_eq, bne_iff_ne, beq_eq_false_iff_ne, bne_eq_false_iff_eq] at c22')
    refine wp_exit ?_
    refine hK13 _ _ ?_
    refine wp_seq_k fun K32 hK32 => ?_
    refine wp_region_lit ?_
    refine q_is (l' := [(.slice p_a L_a.length q_a), Ud, (.slice none 0 0), (.slice (some ⟨b3, 0, none⟩) L_a.length L_a.length), (Iv (k : Int)), (.slice p_a L_a.length q_a), (Iv (L_a.length : Int)), (.slice (some ⟨b3, 0, none⟩) L_a.length L_a.length), (Iv (k : Int)), (.slice p_a L_a.length q_a), (Iv (L_a.length : Int)), (Bo (icmp .lss (k : Int) (L_a.length : Int))), (u15 12), (u15 13), (u15 14), (u15 15), (u15 16), (u15 17), (u15 18), (u15 19), (u15 20), (.slice (some ⟨b3, 0, none⟩) L_a.length L_a.length)]) rfl rfl (does_move (u := (.slice (some ⟨b3, 0, none⟩) L_a.length L_a.length)) (ev rfl)) rfl ?_
    refine q_is (l' := [(.slice p_a L_a.length q_a), Ud, (.slice (some ⟨b3, 0, none⟩) L_a.length L_a.length), (.slice (some ⟨b3, 0, none⟩) L_a.length L_a.length), (Iv (k : Int)), (.slice p_a L_a.length q_a), (Iv (L_a.length : Int)), (.slice (some ⟨b3, 0, none⟩) L_a.length L_a.length), (Iv (k : Int)), (.slice p_a L_a.length q_a), (Iv (L_a.length : Int)), (Bo (icmp .lss (k : Int) (L_a.length : Int))), (u15 12), (u15 13), (u15 14), (u15 15), (u15 16), (u15 17), (u15 18), (u15 19), (u15 20), (.slice (some ⟨b3, 0, none⟩) L_a.length L_a.length)]) rfl rfl (does_assign (u := (.slice (some ⟨b3, 0, none⟩) L_a.length L_a.length)) (ev rfl)) rfl ?_
    refine wpList_nil (hK32 _ _ ?_)
    refine wp_ret ?_
    refine ret_val (v := (.slice (some ⟨b3, 0, none⟩) L_a.length L_a.length)) (res_T rfl (slot rfl)) X19 ?_
    exact ⟨(.slice (some ⟨b3, 0, none⟩) L_a.length L_a.length), [b3], rfl, (Fill.hang hF18 RI.flat g11 (by omega) rfl (by omega) (by decide)), (Fill.wl hF18 g11)⟩

/- laws.toInt64SS -/
theorem c_laws_toInt64SS (a : Value) (L_a : List (List Int)) (w : World) (hv_a : Sl (RS RI 1) 1 w a L_a) (hsz : L_a.length ≤ 1048576) (hall : ∀ s ∈ L_a, s.length ≤ 1048576) : Gives Try.prog 28 #[a] w (fun v w' => ∃ y_1 : Value, ∃ Lw_2 : List Nat, v = y_1 ∧ Hang w.heap.size w' (fun u => Sl (RS RI 1) 1 u y_1 L_a) ∧ WLL 1 w.heap.size w' Lw_2 y_1 L_a) := by
  have hlen_a := Sl.len hv_a; obtain ⟨p_a, q_a, rfl⟩ := Sl.shape hv_a
  refine enter [(.slice p_a L_a.length q_a), Ud, Ud, Ud, Ud, Ud, Ud, Ud, Ud, Ud, Ud, Ud, Ud, Ud, Ud, Ud, Ud, Ud, Ud, Ud, Ud, Ud, Ud] Try.func28 rfl Try.ntmps28 rfl ?_
  refine wp_seq_k fun K1 hK1 => ?_
  refine wp_region_lit ?_
  refine q_is (l' := [(.slice p_a L_a.length q_a), Ud, (.slice none 0 0), Ud, Ud, Ud, Ud, Ud, Ud, Ud, Ud, Ud, Ud, Ud, Ud, Ud, Ud, Ud, Ud, Ud, Ud, Ud, Ud]) rfl rfl (does_assign (u := (.slice none 0 0)) (ev rfl)) rfl ?_
  refine wpList_nil (hK1 _ _ ?_)
  refine wp_seq_k fun K2 hK2 => ?_
  refine wp_region_lit ?_
  refine q_is (l' := [(.slice p_a L_a.length q_a), Ud, (.slice none 0 0), Ud, Ud, (.slice p_a L_a.length q_a), Ud, Ud, Ud, Ud, Ud, Ud, Ud, Ud, Ud, Ud, Ud, Ud, Ud, Ud, Ud, Ud, Ud]) rfl rfl (does_move (u := (.slice p_a L_a.length q_a)) (ev rfl)) rfl ?_
  refine q_is (l' := [(.slice p_a L_a.length q_a), Ud, (.slice none 0 0), Ud, Ud, (.slice p_a L_a.length q_a), (Iv (L_a.length : Int)), Ud, Ud, Ud, Ud, Ud, Ud, Ud, Ud, Ud, Ud, Ud, Ud, Ud, Ud, Ud, Ud]) rfl rfl (does_len_slice Try.underlying23 (ev rfl)) rfl ?_
  refine seqd rfl rfl (does_makeSlice (n := L_a.length) Try.underlying23 inf27 (ev rfl) (ev rfl) (by omega)) ?_; rintro _ w7 ⟨b3, rfl, hb4, ⟨cs8, hB5, hl9, hz10⟩, E6⟩
  have g11 : w.heap.size ≤ b3 := Nat.le_trans (Below.size (Ext.refl w)) hb4
  have X12 := Ext.gr (Ext.refl w) E6
  show wpList _ _ _ _ (fr [(.slice p_a L_a.length q_a), Ud, (.slice none 0 0), Ud, Ud, (.slice p_a L_a.length q_a), (Iv (L_a.length : Int)), (.slice (some ⟨b3, 0, none⟩) L_a.length L_a.length), Ud, Ud, Ud, Ud, Ud, Ud, Ud, Ud, Ud, Ud, Ud, Ud, Ud, Ud, Ud]) _
  refine q_is (l' := [(.slice p_a L_a.length q_a), Ud, (.slice none 0 0), (.slice (some ⟨b3, 0, none⟩) L_a.length L_a.length), Ud, (.slice p_a L_a.length q_a), (Iv (L_a.length : Int)), (.slice (some ⟨b3, 0, none⟩) L_a.length L_a.length), Ud, Ud, Ud, Ud, Ud, Ud, Ud, Ud, Ud, Ud, Ud, Ud, Ud, Ud, Ud]) rfl rfl (does_assign (u := (.slice (some ⟨b3, 0, none⟩) L_a.length L_a.length)) (ev rfl)) rfl ?_
  refine wpList_nil (hK2 _ _ ?_)
  refine wp_seq_k fun K13 hK13 => ?_
  refine wp_seq_k fun K14 hK14 => ?_
  refine wp_region_lit ?_
  refine q_is (l' := [(.slice p_a L_a.length q_a), Ud, (.slice none 0 0), (.slice (some ⟨b3, 0, none⟩) L_a.length L_a.length), (Iv 0), (.slice p_a L_a.length q_a), (Iv (L_a.length : Int)), (.slice (some ⟨b3, 0, none⟩) L_a.length L_a.length), Ud, Ud, Ud, Ud, Ud, Ud, Ud, Ud, Ud, Ud, Ud, Ud, Ud, Ud, Ud]) rfl rfl (does_assign (u := (Iv 0)) (ev rfl)) rfl ?_
  refine wpList_nil (hK14 _ _ ?_)
  refine wp_block ?_
  have hF0 : FillN RI 1 w7 b3 L_a.length L_a 0 := FillN.zero hB5 hl9
  refine loop_ghost (σ := Nat) (fun k a w' => ∃ u15 : Nat → Value, a = fr [(.slice p_a L_a.length q_a), Ud, (.slice none 0 0), (.slice (some ⟨b3, 0, none⟩) L_a.length L_a.length), (Iv (k : Int)), (.slice p_a L_a.length q_a), (Iv (L_a.length : Int)), (.slice (some ⟨b3, 0, none⟩) L_a.length L_a.length), (u15 8), (u15 9), (u15 10), (u15 11), (u15 12), (u15 13), (u15 14), (u15 15), (u15 16), (u15 17), (u15 18), (u15 19), (u15 20), (u15 21), Ud] ∧ KpL [b3] w7 w' ∧ FillN RI 1 w' b3 L_a.length L_a k ∧ (k ≤ L_a.length)) (fun k => L_a.length - k) 0 ?_ ?_
  · refine ⟨fun t => (([(.slice p_a L_a.length q_a), Ud, (.slice none 0 0), (.slice (some ⟨b3, 0, none⟩) L_a.length L_a.length), (Iv 0), (.slice p_a L_a.length q_a), (Iv (L_a.length : Int)), (.slice (some ⟨b3, 0, none⟩) L_a.length L_a.length), Ud, Ud, Ud, Ud, Ud, Ud, Ud, Ud, Ud, Ud, Ud, Ud, Ud, Ud, Ud] : List Value)[t]?).getD undef, rfl, KpL.refl _ _, hF0, ?_⟩
    exact Nat.zero_le _
  · rintro k a w16 ⟨u15, rfl, E17, hF18, hk⟩
    have X19 := Below.kl X12 E17 (allS g11 all0) (Nat.le_refl _)
    refine wp_seq_k fun K20 hK20 => ?_
    refine wp_seq_k fun K21 hK21 => ?_
    refine wp_region_lit ?_
    refine q_is (l' := [(.slice p_a L_a.length q_a), Ud, (.slice none 0 0), (.slice (some ⟨b3, 0, none⟩) L_a.length L_a.length), (Iv (k : Int)), (.slice p_a L_a.length q_a), (Iv (L_a.length : Int)), (.slice (some ⟨b3, 0, none⟩) L_a.length L_a.length), (Iv (k : Int)), (u15 9), (u15 10), (u15 11), (u15 12), (u15 13), (u15 14), (u15 15), (u15 16), (u15 17), (u15 18), (u15 19), (u15 20), (u15 21), Ud]) rfl rfl (does_move (u := (Iv (k : Int))) (ev rfl)) rfl ?_
    refine q_is (l' := [(.slice p_a L_a.length q_a), Ud, (.slice none 0 0), (.slice (some ⟨b3, 0, none⟩) L_a.length L_a.length), (Iv (k : Int)), (.slice p_a L_a.length q_a), (Iv (L_a.length : Int)), (.slice (some ⟨b3, 0, none⟩) L_a.length L_a.length), (Iv (k : Int)), (.slice p_a L_a.length q_a), (u15 10), (u15 11), (u15 12), (u15 13), (u15 14), (u15 15), (u15 16), (u15 17), (u15 18), (u15 19), (u15 20), (u15 21), Ud]) rfl rfl (does_move (u := (.slice p_a L_a.length q_a)) (ev rfl)) rfl ?_
    refine q_is (l' := [(.slice p_a L_a.length q_a), Ud, (.slice none 0 0), (.slice (some ⟨b3, 0, none⟩) L_a.length L_a.length), (Iv (k : Int)), (.slice p_a L_a.length q_a), (Iv (L_a.length : Int)), (.slice (some ⟨b3, 0, none⟩) L_a.length L_a.length), (Iv (k : Int)), (.slice p_a L_a.length q_a), (Iv (L_a.length : Int)), (u15 11), (u15 12), (u15 13), (u15 14), (u15 15), (u15 16), (u15 17), (u15 18), (u15 19), (u15 20), (u15 21), Ud]) rfl rfl (does_len_slice Try.underlying23 (ev rfl)) rfl ?_
    refine q_is (l' := [(.slice p_a L_a.length q_a), Ud, (.slice none 0 0), (.slice (some ⟨b3, 0, none⟩) L_a.length L_a.length), (Iv (k : Int)), (.slice p_a L_a.length q_a), (Iv (L_a.length : Int)), (.slice (some ⟨b3, 0, none⟩) L_a.length L_a.length), (Iv (k : Int)), (.slice p_a L_a.length q_a), (Iv (L_a.length : Int)), (Bo (icmp .lss (k : Int) (L_a.length : Int))), (u15 12), (u15 13), (u15 14), (u15 15), (u15 16), (u15 17), (u15 18), (u15 19), (u15 20), (u15 21), Ud]) rfl rfl (does_icmp (p := (k : Int)) (q := (L_a.length : Int)) (.inr (.inr (.inl rfl))) (ev rfl) (ev rfl)) rfl ?_
    refine wpList_nil (hK21 _ _ ?_)
    refine wp_cond_split (t := icmp .lss (k : Int) (L_a.length : Int)) (ev rfl) (fun c22 => ?_) (fun c22 => ?_)
    · have c22' := c22
      (try simp only [icmp, Bool.and_eq_true, Bool.or_eq_true, Bool.and_eq_false_iff, Bool.or_eq_false_iff, Bool.not_eq_true', Bool.not_eq_false', decide_eq_true_eq, decide_eq_false_iff_not, beq_iff_eq, bne_iff_ne, beq_eq_false_iff_ne, bne_eq_false_iff_eq] at c22')
      refine wp_skip (hK20 _ _ ?_)
      refine wp_seq_k fun K23 hK23 => ?_
      refine wp_block ?_
      refine wp_region_lit ?_
      refine q_is (l' := [(.slice p_a L_a.length q_a), Ud, (.slice none 0 0), (.slice (some ⟨b3, 0, none⟩) L_a.length L_a.length), (Iv (k : Int)), (.slice p_a L_a.length q_a), (Iv (L_a.length : Int)), (.slice (some ⟨b3, 0, none⟩) L_a.length L_a.length), (Iv (k : Int)), (.slice p_a L_a.length q_a), (Iv (L_a.length : Int)), (Bo (icmp .lss (k : Int) (L_a.length : Int))), (u15 12), (u15 13), (.slice (some ⟨b3, 0, none⟩) L_a.length L_a.length), (u15 15), (u15 16), (u15 17), (u15 18), (u15 19), (u15 20), (u15 21), Ud]) rfl rfl (does_move (u := (.slice (some ⟨b3, 0, none⟩) L_a.length L_a.length)) (ev rfl)) rfl ?_
      refine q_is (l' := [(.slice p_a L_a.length q_a), Ud, (.slice none 0 0), (.slice (some ⟨b3, 0, none⟩) L_a.length L_a.length), (Iv (k : Int)), (.slice p_a L_a.length q_a), (Iv (L_a.length : Int)), (.slice (some ⟨b3, 0, none⟩) L_a.length L_a.length), (Iv (k : Int)), (.slice p_a L_a.length q_a), (Iv (L_a.length : Int)), (Bo (icmp .lss (k : Int) (L_a.length : Int))), (u15 12), (u15 13), (.slice (some ⟨b3, 0, none⟩) L_a.length L_a.length), (Iv (k : Int)), (u15 16), (u15 17), (u15 18), (u15 19), (u15 20), (u15 21), Ud]) rfl rfl (does_move (u := (Iv (k : Int))) (ev rfl)) rfl ?_
      refine q_is (l' := [(.slice p_a L_a.length q_a), Ud, (.slice none 0 0), (.slice (some ⟨b3, 0, none⟩) L_a.length L_a.length), (Iv (k : Int)), (.slice p_a L_a.length q_a), (Iv (L_a.length : Int)), (.slice (some ⟨b3, 0, none⟩) L_a.length L_a.length), (Iv (k : Int)), (.slice p_a L_a.length q_a), (Iv (L_a.length : Int)), (Bo (icmp .lss (k : Int) (L_a.length : Int))), (u15 12), (u15 13), (.slice (some ⟨b3, 0, none⟩) L_a.length L_a.length), (Iv (k : Int)), (.slice p_a L_a.length q_a), (u15 17), (u15 18), (u15 19), (u15 20), (u15 21), Ud]) rfl rfl (does_move (u := (.slice p_a L_a.length q_a)) (ev rfl)) rfl ?_
      refine q_is (l' := [(.slice p_a L_a.length q_a), Ud, (.slice none 0 0), (.slice (some ⟨b3, 0, none⟩) L_a.length L_a.length), (Iv (k : Int)), (.slice p_a L_a.length q_a), (Iv (L_a.length : Int)), (.slice (some ⟨b3, 0, none⟩) L_a.length L_a.length), (Iv (k : Int)), (.slice p_a L_a.length q_a), (Iv (L_a.length : Int)), (Bo (icmp .lss (k : Int) (L_a.length : Int))), (u15 12), (u15 13), (.slice (some ⟨b3, 0, none⟩) L_a.length L_a.length), (Iv (k : Int)), (.slice p_a L_a.length q_a), (Iv (k : Int)), (u15 18), (u15 19), (u15 20), (u15 21), Ud]) rfl rfl (does_move (u := (Iv (k : Int))) (ev rfl)) rfl ?_
      obtain ⟨el1, hel1⟩ : ∃ e, L_a[k]? = some e := ⟨_, List.getElem?_eq_getElem (by omega)⟩
      refine seqd rfl rfl (does_indexSl (R := (RS RI 1)) (i := (k : Int)) (xs := L_a) (e := el1) Try.underlying23 Try.sizeOf27 (ev rfl) (ev rfl) (Sl.ext hv_a (RS.mono RI.mono) X19) (by omega) hel1) ?_; rintro _ w16 ⟨b24, o25, _, rfl, hc27, ⟨y28, rfl, h29⟩, rfl⟩
      have hs32 := h29; have hs32l := Sl.len h29; obtain ⟨p30, q31, rfl⟩ := Sl.shape h29
      show wpList _ _ _ _ (fr [(.slice p_a L_a.length q_a), Ud, (.slice none 0 0), (.slice (some ⟨b3, 0, none⟩) L_a.length L_a.length), (Iv (k : Int)), (.slice p_a L_a.length q_a), (Iv (L_a.length : Int)), (.slice (some ⟨b3, 0, none⟩) L_a.length L_a.length), (Iv (k : Int)), (.slice p_a L_a.length q_a), (Iv (L_a.length : Int)), (Bo (icmp .lss (k : Int) (L_a.length : Int))), (u15 12), (u15 13), (.slice (some ⟨b3, 0, none⟩) L_a.length L_a.length), (Iv (k : Int)), (.slice p_a L_a.length q_a), (Iv (k : Int)), (Pt b24 o25), (u15 19), (u15 20), (u15 21), Ud]) _
      refine q_is (l' := [(.slice p_a L_a.length q_a), Ud, (.slice none 0 0), (.slice (some ⟨b3, 0, none⟩) L_a.length L_a.length), (Iv (k : Int)), (.slice p_a L_a.length q_a), (Iv (L_a.length : Int)), (.slice (some ⟨b3, 0, none⟩) L_a.length L_a.length), (Iv (k : Int)), (.slice p_a L_a.length q_a), (Iv (L_a.length : Int)), (Bo (icmp .lss (k : Int) (L_a.length : Int))), (u15 12), (u15 13), (.slice (some ⟨b3, 0, none⟩) L_a.length L_a.length), (Iv (k : Int)), (.slice p_a L_a.length q_a), (Iv (k : Int)), (Pt b24 o25), (.slice p30 el1.length q31), (u15 20), (u15 21), Ud]) rfl rfl (does_load (u := (.slice p30 el1.length q31)) (ev rfl) Try.isAgg27 (Cells.at hc27 0 rfl)) rfl ?_
      refine seqd rfl rfl (does_call (args := #[(.slice p30 el1.length q31)]) cal45 (evs rfl) (c_laws_toInt64S (.slice p30 el1.length q31) el1 _ hs32 (by exact hall _ (List.mem_of_getElem? (by assumption))))) ?_; rintro _ w34 ⟨E33, ⟨y36, Lw37, rfl, hh35, hw38⟩⟩
      have X39 := Ext.gr X19 E33
      obtain ⟨p41, q42, rfl⟩ := Sl.shape hh35.get
      have hw43 : WL 1 w16.heap.size w34 Lw37 (.slice p41 el1.length q42) el1.length := hw38
      show wpList _ _ _ _ (fr [(.slice p_a L_a.length q_a), Ud, (.slice none 0 0), (.slice (some ⟨b3, 0, none⟩) L_a.length L_a.length), (Iv (k : Int)), (.slice p_a L_a.length q_a), (Iv (L_a.length : Int)), (.slice (some ⟨b3, 0, none⟩) L_a.length L_a.length), (Iv (k : Int)), (.slice p_a L_a.length q_a), (Iv (L_a.length : Int)), (Bo (icmp .lss (k : Int) (L_a.length : Int))), (u15 12), (u15 13), (.slice (some ⟨b3, 0, none⟩) L_a.length L_a.length), (Iv (k : Int)), (.slice p_a L_a.length q_a), (Iv (k : Int)), (Pt b24 o25), (.slice p30 el1.length q31), (.slice p41 el1.length q42), (u15 21), Ud]) _
      refine q_is (l' := [(.slice p_a L_a.length q_a), Ud, (.slice none 0 0), (.slice (some ⟨b3, 0, none⟩) L_a.length L_a.length), (Iv (k : Int)), (.slice p_a L_a.length q_a), (Iv (L_a.length : Int)), (.slice (some ⟨b3, 0, none⟩) L_a.length L_a.length), (Iv (k : Int)), (.slice p_a L_a.length q_a), (Iv (L_a.length : Int)), (Bo (icmp .lss (k : Int) (L_a.length : Int))), (u15 12), (u15 13), (.slice (some ⟨b3, 0, none⟩) L_a.length L_a.length), (Iv (k : Int)), (.slice p_a L_a.length q_a), (Iv (k : Int)), (Pt b24 o25), (.slice p30 el1.length q31), (.slice p41 el1.length q42), (Pt b3 (k * 1)), Ud]) rfl rfl (does_indexOwn (b := b3) (n := L_a.length) (i := (k : Int)) Try.underlying23 Try.sizeOf27 (ev rfl) (ev rfl) (by omega) (by omega)) rfl ?_
      refine seqn rfl rfl (does_fillN (R := RI) (k := 1) (n := L_a.length) (j := k) (xs := L_a) (v := (.slice p41 el1.length q42)) (e := el1) (L := Lw37) (w0 := w16) (ev rfl) (ev rfl) Try.sizeOf27 hF18 (Ext.gr (Ext.refl _) E33) (by omega) hel1 hw43 hh35) ?_; rintro _ w46 ⟨rfl, W44, hF45⟩
      have X47 := Below.wr X39 W44 g11
      refine wpList_nil (hK23 _ _ ?_)
      refine wp_region_lit ?_
      refine q_is (l' := [(.slice p_a L_a.length q_a), Ud, (.slice none 0 0), (.slice (some ⟨b3, 0, none⟩) L_a.length L_a.length), (Iv (k : Int)), (.slice p_a L_a.length q_a), (Iv (L_a.length : Int)), (.slice (some ⟨b3, 0, none⟩) L_a.length L_a.length), (Iv (k : Int)), (.slice p_a L_a.length q_a), (Iv (L_a.length : Int)), (Bo (icmp .lss (k : Int) (L_a.length : Int))), (Iv (k : Int)), (u15 13), (.slice (some ⟨b3, 0, none⟩) L_a.length L_a.length), (Iv (k : Int)), (.slice p_a L_a.length q_a), (Iv (k : Int)), (Pt b24 o25), (.slice p30 el1.length q31), (.slice p41 el1.length q42), (Pt b3 (k * 1)), Ud]) rfl rfl (does_move (u := (Iv (k : Int))) (ev rfl)) rfl ?_
      refine q_is (l' := [(.slice p_a L_a.length q_a), Ud, (.slice none 0 0), (.slice (some ⟨b3, 0, none⟩) L_a.length L_a.length), (Iv (k : Int)), (.slice p_a L_a.length q_a), (Iv (L_a.length : Int)), (.slice (some ⟨b3, 0, none⟩) L_a.length L_a.length), (Iv (k : Int)), (.slice p_a L_a.length q_a), (Iv (L_a.length : Int)), (Bo (icmp .lss (k : Int) (L_a.length : Int))), (Iv (k : Int)), (Iv ((k : Int) + 1)), (.slice (some ⟨b3, 0, none⟩) L_a.length L_a.length), (Iv (k : Int)), (.slice p_a L_a.length q_a), (Iv (k : Int)), (Pt b24 o25), (.slice p30 el1.length q31), (.slice p41 el1.length q42), (Pt b3 (k * 1)), Ud]) rfl rfl (does_iarith (p := (k : Int)) (q := 1) (r := (k : Int) + 1) (ev rfl) (ev rfl) (.inl ⟨rfl, (in_i64 (by omega) (by omega)).symm⟩)) rfl ?_
      refine q_is (l' := [(.slice p_a L_a.length q_a), Ud, (.slice none 0 0), (.slice (some ⟨b3, 0, none⟩) L_a.length L_a.length), (Iv ((k : Int) + 1)), (.slice p_a L_a.length q_a), (Iv (L_a.length : Int)), (.slice (some ⟨b3, 0, none⟩) L_a.length L_a.length), (Iv (k : Int)), (.slice p_a L_a.length q_a), (Iv (L_a.length : Int)), (Bo (icmp .lss (k : Int) (L_a.length : Int))), (Iv (k : Int)), (Iv ((k : Int) + 1)), (.slice (some ⟨b3, 0, none⟩) L_a.length L_a.length), (Iv (k : Int)), (.slice p_a L_a.length q_a), (Iv (k : Int)), (Pt b24 o25), (.slice p30 el1.length q31), (.slice p41 el1.length q42), (Pt b3 (k * 1)), Ud]) rfl rfl (does_assign (u := (Iv ((k : Int) + 1))) (ev rfl)) rfl ?_
      refine wpList_nil ?_
      refine ⟨k + 1, ⟨fun t => (([(.slice p_a L_a.length q_a), Ud, (.slice none 0 0), (.slice (some ⟨b3, 0, none⟩) L_a.length L_a.length), (Iv ((k : Int) + 1)), (.slice p_a L_a.length q_a), (Iv (L_a.length : Int)), (.slice (some ⟨b3, 0, none⟩) L_a.length L_a.length), (Iv (k : Int)), (.slice p_a L_a.length q_a), (Iv (L_a.length : Int)), (Bo (icmp .lss (k : Int) (L_a.length : Int))), (Iv (k : Int)), (Iv ((k : Int) + 1)), (.slice (some ⟨b3, 0, none⟩) L_a.length L_a.length), (Iv (k : Int)), (.slice p_a L_a.length q_a), (Iv (k : Int)), (Pt b24 o25), (.slice p30 el1.length q31), (.slice p41 el1.length q42), (Pt b3 (k * 1)), Ud] : List Value)[t]?).getD undef, ?_, (KpL.more (KpL.ext E17 E33) (KpL.of_wr W44) (allS (.inl (by simp)) all0)), hF45, ?_⟩, ?_⟩
      · first | rfl | (simp only [Int.natCast_add, Int.natCast_one]; rfl)
      · omega
      · omega
    have c22' := c22
    (try simp only [icmp, Bool.and_eq_true, Bool.or_eq_true, Bool.and_eq_false_iff, Bool.or_eq_false_iff, Bool.not_eq_true', Bool.not_eq_false', decide_eq_true_eq, decide_eq_false_iff_not, beq_iff_eq, bne_iff_ne, beq_eq_false_iff_ne, bne_eq_false_iff_eq] at c22')
    refine wp_exit ?_
    refine hK13 _ _ ?_
    refine wp_seq_k fun K48 hK48 => ?_
    refine wp_region_lit ?_
    refine q_is (l' := [(.slice p_a L_a.length q_a), Ud, (.slice none 0 0), (.slice (some ⟨b3, 0, none⟩) L_a.length L_a.length), (Iv (k : Int)), (.slice p_a L_a.length q_a), (Iv (L_a.length : Int)), (.slice (some ⟨b3, 0, none⟩) L_a.length L_a.length), (Iv (k : Int)), (.slice p_a L_a.length q_a), (Iv (L_a.length : Int)), (Bo (icmp .lss (k : Int) (L_a.length : Int))), (u15 12), (u15 13), (u15 14), (u15 15), (u15 16), (u15 17), (u15 18), (u15 19), (u15 20), (u15 21), (.slice (some ⟨b3, 0, none⟩) L_a.length L_a.length)]) rfl rfl (does_move (u := (.slice (some ⟨b3, 0, none⟩) L_a.length L_a.length)) (ev rfl)) rfl ?_
    refine q_is (l' := [(.slice p_a L_a.length q_a), Ud, (.slice (some ⟨b3, 0, none⟩) L_a.length L_a.length), (.slice (some ⟨b3, 0, none⟩) L_a.length L_a.length), (Iv (k : Int)), (.slice p_a L_a.length q_a), (Iv (L_a.length : Int)), (.slice (some ⟨b3, 0, none⟩) L_a.length L_a.length), (Iv (k : Int)), (.slice p_a L_a.length q_a), (Iv (L_a.length : Int)), (Bo (icmp .lss (k : Int) (L_a.length : Int))), (u15 12), (u15 13), (u15 14), (u15 15), (u15 16), (u15 17), (u15 18), (u15 19), (u15 20), (u15 21), (.slice (some ⟨b3, 0, none⟩) L_a.length L_a.length)]) rfl rfl (does_assign (u := (.slice (some ⟨b3, 0, none⟩) L_a.length L_a.length)) (ev rfl)) rfl ?_
    refine wpList_nil (hK48 _ _ ?_)
    refine wp_ret ?_
    refine ret_val (v := (.slice (some ⟨b3, 0, none⟩) L_a.length L_a.length)) (res_T rfl (slot rfl)) X19 ?_
    obtain ⟨Lw49, hw50⟩ := FillN.wll hF18 (by omega) rfl (by omega) g11
    exact ⟨(.slice (some ⟨b3, 0, none⟩) L_a.length L_a.length), Lw49, rfl, (FillN.hang hF18 g11 (by omega) rfl (by omega)), hw50⟩

/- laws.toMesh -/
theorem c_laws_toMesh (a : List Value) (A_a : MeshT) (w : World) (hv_a : RMeshT w A_a a) (hme : meTot A_a ≤ 1048576) : Gives Try.prog 9 #[(.agg a.toArray)] w (fun v w' => ∃ cs_1 : List Value, ∃ Lw_2 : List Nat, v = (.agg cs_1.toArray) ∧ Hang w.heap.size w' (fun u => RMeshT u A_a cs_1) ∧ WLM w.heap.size w' Lw_2 (cellN cs_1 0) (cellN cs_1 1) A_a) := by
  obtain ⟨y1, y3, rfl, h2, h4⟩ := hv_a
  have hs7 := h2; have hs7l := Sl.len h2; obtain ⟨p5, q6, rfl⟩ := Sl.shape h2
  have hs10 := h4; have hs10l := Sl.len h4; obtain ⟨p8, q9, rfl⟩ := Sl.shape h4
  have hm1 := meTot_each hme
  have hm2 := liTot_each hm1.2
  refine enter [(.agg #[(.slice p5 A_a.places.length q6), (.slice p8 A_a.tris.length q9)]), Ud, Ud, Ud, Ud, Ud, Ud, Ud, Ud, Ud, Ud, Ud, Ud] Try.func9 rfl Try.ntmps9 rfl ?_
  refine wp_seq_k fun K11 hK11 => ?_
  refine wp_region_lit ?_
  refine seqd rfl rfl (does_box (u := (.agg #[(.slice p5 A_a.places.length q6), (.slice p8 A_a.tris.length q9)])) (ev rfl)) ?_; rintro _ w16 ⟨b12, rfl, hb13, hB14, E15⟩
  have g17 : w.heap.size ≤ b12 := Nat.le_trans (Below.size (Ext.refl w)) hb13
  change Blk _ _ [(.slice p5 A_a.places.length q6), (.slice p8 A_a.tris.length q9)] at hB14
  have X18 := Ext.gr (Ext.refl w) E15
  show wpList _ _ _ _ (fr [(.agg #[(.slice p5 A_a.places.length q6), (.slice p8 A_a.tris.length q9)]), (Pt b12 0), Ud, Ud, Ud, Ud, Ud, Ud, Ud, Ud, Ud, Ud, Ud]) _
  refine seqd rfl rfl (does_alloc z32) ?_; rintro _ w23 ⟨b19, rfl, hb20, hB21, E22⟩
  have n24 : b12 < b19 := Nat.lt_of_lt_of_le (Blk.lt hB14) hb20
  have g25 : w.heap.size ≤ b19 := Nat.le_trans (Below.size X18) hb20
  change Blk _ _ [(.slice none 0 0), (.slice none 0 0)] at hB21
  have X26 := Ext.gr X18 E22
  show wpList _ _ _ _ (fr [(.agg #[(.slice p5 A_a.places.length q6), (.slice p8 A_a.tris.length q9)]), (Pt b12 0), (Pt b19 0), Ud, Ud, Ud, Ud, Ud, Ud, Ud, Ud, Ud, Ud]) _
  refine wpList_nil (hK11 _ _ ?_)
  refine wp_seq_k fun K27 hK27 => ?_
  refine wp_region_lit ?_
  refine seqd rfl rfl (does_alloc z32) ?_; rintro _ w32 ⟨b28, rfl, hb29, hB30, E31⟩
  have n33 : b12 < b28 := Nat.lt_of_lt_of_le (Blk.lt (hB14.ext E22)) hb29
  have n34 : b19 < b28 := Nat.lt_of_lt_of_le (Blk.lt hB21) hb29
  have g35 : w.heap.size ≤ b28 := Nat.le_trans (Below.size X26) hb29
  change Blk _ _ [(.slice none 0 0), (.slice none 0 0)] at hB30
  have X36 := Ext.gr X26 E31
  show wpList _ _ _ _ (fr [(.agg #[(.slice p5 A_a.places.length q6), (.slice p8 A_a.tris.length q9)]), (Pt b12 0), (Pt b19 0), (Pt b28 0), Ud, Ud, Ud, Ud, Ud, Ud, Ud, Ud, Ud]) _
  refine wpList_nil (hK27 _ _ ?_)
  refine wp_seq_k fun K37 hK37 => ?_
  refine wp_region_lit ?_
  refine q_is (l' := [(.agg #[(.slice p5 A_a.places.length q6), (.slice p8 A_a.tris.length q9)]), (Pt b12 0), (Pt b19 0), (Pt b28 0), (Pt b12 0), Ud, Ud, Ud, Ud, Ud, Ud, Ud, Ud]) rfl rfl (does_fieldAddr (ev rfl) fa25_0) rfl ?_
  refine q_is (l' := [(.agg #[(.slice p5 A_a.places.length q6), (.slice p8 A_a.tris.length q9)]), (Pt b12 0), (Pt b19 0), (Pt b28 0), (Pt b12 0), (.slice p5 A_a.places.length q6), Ud, Ud, Ud, Ud, Ud, Ud, Ud]) rfl rfl (does_load (u := (.slice p5 A_a.places.length q6)) (ev rfl) Try.isAgg22 (Cells.at (Blk.cells ((hB14.ext E22).ext E31)) 0 rfl)) rfl ?_
  refine seqd rfl rfl (does_call (args := #[(.slice p5 A_a.places.length q6)]) cal27 (evs rfl) (c_laws_toVectorS (.slice p5 A_a.places.length q6) A_a.places _ (Sl.ext hs7 RV3.mono X36) (by exact hm1.1))) ?_; rintro _ w39 ⟨E38, ⟨y41, Lw42, rfl, hh40, hw43⟩⟩
  have X44 := Ext.gr X36 E38
  have n45 : b12 < w32.heap.size := Blk.lt ((hB14.ext E22).ext E31)
  have n46 : b19 < w32.heap.size := Blk.lt (hB21.ext E31)
  have n47 : b28 < w32.heap.size := Blk.lt hB30
  obtain ⟨p48, q49, rfl⟩ := Sl.shape hh40.get
  have hw50 : WL 3 w32.heap.size w39 Lw42 (.slice p48 A_a.places.length q49) A_a.places.length := hw43
  show wpList _ _ _ _ (fr [(.agg #[(.slice p5 A_a.places.length q6), (.slice p8 A_a.tris.length q9)]), (Pt b12 0), (Pt b19 0), (Pt b28 0), (Pt b12 0), (.slice p5 A_a.places.length q6), (.slice p48 A_a.places.length q49), Ud, Ud, Ud, Ud, Ud, Ud]) _
  refine q_is (l' := [(.agg #[(.slice p5 A_a.places.length q6), (.slice p8 A_a.tris.length q9)]), (Pt b12 0), (Pt b19 0), (Pt b28 0), (Pt b12 0), (.slice p5 A_a.places.length q6), (.slice p48 A_a.places.length q49), (Pt b28 0), Ud, Ud, Ud, Ud, Ud]) rfl rfl (does_fieldAddr (ev rfl) fa32_0) rfl ?_
  refine seqn rfl rfl (does_store (n := 1) (cs := [(.slice none 0 0), (.slice none 0 0)]) (u := (.slice p48 A_a.places.length q49)) (ev rfl) (ev rfl) Try.sizeOf30 rfl (hB30.ext E38) (Nat.le_of_ble_eq_true rfl) rfl) ?_; rintro _ w53 ⟨rfl, W51, hB52⟩
  change Blk _ _ [(.slice p48 A_a.places.length q49), (.slice none 0 0)] at hB52
  have X54 := Below.wr X44 W51 g35
  refine wpList_nil (hK37 _ _ ?_)
  refine wp_seq_k fun K55 hK55 => ?_
  refine wp_region_lit ?_
  refine q_is (l' := [(.agg #[(.slice p5 A_a.places.length q6), (.slice p8 A_a.tris.length q9)]), (Pt b12 0), (Pt b19 0), (Pt b28 0), (Pt b12 0), (.slice p5 A_a.places.length q6), (.slice p48 A_a.places.length q49), (Pt b28 0), (Pt b12 1), Ud, Ud, Ud, Ud]) rfl rfl (does_fieldAddr (ev rfl) fa25_1) rfl ?_
  refine q_is (l' := [(.agg #[(.slice p5 A_a.places.length q6), (.slice p8 A_a.tris.length q9)]), (Pt b12 0), (Pt b19 0), (Pt b28 0), (Pt b12 0), (.slice p5 A_a.places.length q6), (.slice p48 A_a.places.length q49), (Pt b28 0), (Pt b12 1), (.slice p8 A_a.tris.length q9), Ud, Ud, Ud]) rfl rfl (does_load (u := (.slice p8 A_a.tris.length q9)) (ev rfl) Try.isAgg23 (Cells.at (Blk.cells ((((hB14.ext E22).ext E31).ext E38).wr W51 (Nat.ne_of_lt n33))) 1 rfl)) rfl ?_
  refine seqd rfl rfl (does_call (args := #[(.slice p8 A_a.tris.length q9)]) cal28 (evs rfl) (c_laws_toInt64SS (.slice p8 A_a.tris.length q9) A_a.tris _ (Sl.ext hs10 (RS.mono RI.mono) X54) (by exact hm2.1) (by exact hm2.2))) ?_; rintro _ w57 ⟨E56, ⟨y59, Lw60, rfl, hh58, hw61⟩⟩
  have X62 := Ext.gr X54 E56
  have n63 : b12 < w53.heap.size := Blk.lt ((((hB14.ext E22).ext E31).ext E38).wr W51 (Nat.ne_of_lt n33))
  have n64 : b19 < w53.heap.size := Blk.lt (((hB21.ext E31).ext E38).wr W51 (Nat.ne_of_lt n34))
  have n65 : b28 < w53.heap.size := Blk.lt hB52
  obtain ⟨p66, q67, rfl⟩ := Sl.shape hh58.get
  have hw68 : WLL 1 w53.heap.size w57 Lw60 (.slice p66 A_a.tris.length q67) A_a.tris := hw61
  show wpList _ _ _ _ (fr [(.agg #[(.slice p5 A_a.places.length q6), (.slice p8 A_a.tris.length q9)]), (Pt b12 0), (Pt b19 0), (Pt b28 0), (Pt b12 0), (.slice p5 A_a.places.length q6), (.slice p48 A_a.places.length q49), (Pt b28 0), (Pt b12 1), (.slice p8 A_a.tris.length q9), (.slice p66 A_a.tris.length q67), Ud, Ud]) _
  refine q_is (l' := [(.agg #[(.slice p5 A_a.places.length q6), (.slice p8 A_a.tris.length q9)]), (Pt b12 0), (Pt b19 0), (Pt b28 0), (Pt b12 0), (.slice p5 A_a.places.length q6), (.slice p48 A_a.places.length q49), (Pt b28 0), (Pt b12 1), (.slice p8 A_a.tris.length q9), (.slice p66 A_a.tris.length q67), (Pt b28 1), Ud]) rfl rfl (does_fieldAddr (ev rfl) fa32_1) rfl ?_
  refine seqn rfl rfl (does_store (n := 1) (cs := [(.slice p48 A_a.places.length q49), (.slice none 0 0)]) (u := (.slice p66 A_a.tris.length q67)) (ev rfl) (ev rfl) Try.sizeOf23 rfl (hB52.ext E56) (Nat.le_of_ble_eq_true rfl) rfl) ?_; rintro _ w71 ⟨rfl, W69, hB70⟩
  change Blk _ _ [(.slice p48 A_a.places.length q49), (.slice p66 A_a.tris.length q67)] at hB70
  have X72 := Below.wr X62 W69 g35
  refine wpList_nil (hK55 _ _ ?_)
  refine wp_seq_k fun K73 hK73 => ?_
  refine wp_region_lit ?_
  refine q_is (l' := [(.agg #[(.slice p5 A_a.places.length q6), (.slice p8 A_a.tris.length q9)]), (Pt b12 0), (Pt b19 0), (Pt b28 0), (Pt b12 0), (.slice p5 A_a.places.length q6), (.slice p48 A_a.places.length q49), (Pt b28 0), (Pt b12 1), (.slice p8 A_a.tris.length q9), (.slice p66 A_a.tris.length q67), (Pt b28 1), (.agg #[(.slice p48 A_a.places.length q49), (.slice p66 A_a.tris.length q67)])]) rfl rfl (does_loadAgg (cs := [(.slice p48 A_a.places.length q49), (.slice p66 A_a.tris.length q67)]) (ev rfl) Try.isAgg32 Try.sizeOf32 (Blk.cells hB70) rfl) rfl ?_
  refine seqn rfl rfl (does_store (n := 2) (cs := [(.slice none 0 0), (.slice none 0 0)]) (u := (.agg #[(.slice p48 A_a.places.length q49), (.slice p66 A_a.tris.length q67)])) (ev rfl) (ev rfl) Try.sizeOf32 rfl (((((hB21.ext E31).ext E38).wr W51 (Nat.ne_of_lt n34)).ext E56).wr W69 (Nat.ne_of_lt n34)) (Nat.le_of_ble_eq_true rfl) rfl) ?_; rintro _ w76 ⟨rfl, W74, hB75⟩
  change Blk _ _ [(.slice p48 A_a.places.length q49), (.slice p66 A_a.tris.length q67)] at hB75
  have X77 := Below.wr X72 W74 g25
  refine wpList_nil (hK73 _ _ ?_)
  refine wp_ret ?_
  refine ret_val (v := (.agg #[(.slice p48 A_a.places.length q49), (.slice p66 A_a.tris.length q67)])) (res_C rfl (slot rfl) (run_loadAgg (cs := [(.slice p48 A_a.places.length q49), (.slice p66 A_a.tris.length q67)]) Try.isAgg32 Try.sizeOf32 (Blk.cells hB75) rfl)) X77 ?_
  exact ⟨[(.slice p48 A_a.places.length q49), (.slice p66 A_a.tris.length q67)], (Lw42 ++ Lw60), rfl, fun u hu => ⟨(.slice p48 A_a.places.length q49), (.slice p66 A_a.tris.length q67), rfl, ((Hang.to hh40 (((((Same.refl _ _).wr W51 (.inl n47)).ext E56).wr W69 (.inl n47)).wr W74 (.inl n46))).le (Below.size (Ext.gr (Ext.gr (Ext.gr (Ext.refl _) E15) E22) E31))) u hu, ((Hang.to hh58 (((Same.refl _ _).wr W69 (.inl n65)).wr W74 (.inl n64))).le (Below.size (Below.wr (Ext.gr (Ext.gr (Ext.gr (Ext.gr (Ext.refl _) E15) E22) E31) E38) W51 g35))) u hu⟩, (WLM.mk (C := w53.heap.size) ((hw50.same (((((Same.refl _ _).wr W51 (.inl n47)).ext E56).wr W69 (.inl n47)).wr W74 (.inl n46))).le (Below.size (Ext.gr (Ext.gr (Ext.gr (Ext.refl _) E15) E22) E31))) (hw68.same (((Same.refl _ _).wr W69 (.inl n65)).wr W74 (.inl n64))) (Below.size (Below.wr (Ext.gr (Ext.gr (Ext.gr (Ext.gr (Ext.refl _) E15) E22) E31) E38) W51 g35)) (fun c hc => Nat.lt_of_lt_of_le (hw50.1 c hc).2 (Nat.le_of_eq (Eq.symm (Wr.size W51)))) (by first | rfl | (first | with_reducible rfl | (simp only []; done) | (simp []; done) | rfl)) (by first | rfl | (first | with_reducible rfl | (simp only []; done) | (simp []; done) | rfl)))⟩

/- laws.sameFloat -/
theorem c_laws_sameFloat (x : Nat) (y : Nat) (w : World) : Gives Try.prog 61 #[(Fd x), (Fd y)] w (fun v w' => v = (Bo (sameF (cf .f64 x) (cf .f64 y)))) := by
  refine enter [(Fd x), (Fd y), Ud, Ud, Ud, Ud, Ud, Ud, Ud, Ud, Ud, Ud, Ud, Ud, Ud, Ud, Ud, Ud, Ud, Ud, Ud, Ud, Ud, Ud, Ud, Ud, Ud, Ud, Ud, Ud, Ud, Ud, Ud, Ud, Ud, Ud, Ud] Try.func61 rfl Try.ntmps61 rfl ?_
  refine wp_seq_k fun K1 hK1 => ?_
  refine wp_region_lit ?_
  refine q_is rfl rfl (does_assign (u := (Bo false)) (ev rfl)) (by dsimp only [List.set]; try rfl) ?_
  refine wpList_nil (hK1 _ _ ?_)
  refine wp_seq_k fun K2 hK2 => ?_
  refine wp_seq_k fun K3 hK3 => ?_
  obtain ⟨β1, hβ1⟩ : ∃ b : Bool, b = (fcmp .neq (ford .f64 (cf .f64 x) (cf .f64 x))) := ⟨_, rfl⟩
  obtain ⟨β2, hβ2⟩ : ∃ b : Bool, b = (fcmp .neq (ford .f64 (cf .f64 y) (cf .f64 y))) := ⟨_, rfl⟩
  refine region_text (
    [Fact.pure [] (fun v => v = (Fd x)),
    Fact.pure [] (fun v => v = (Fd x)),
    Fact.pure [5, 6] (fun v => v = (Bo β1)),
    Fact.pure [7] (fun v => v = (Bo β1)),
    Fact.pure [8] (fun v => β1 = false → v = (Fd y)),
    Fact.pure [8] (fun v => β1 = false → v = (Fd y)),
    Fact.pure [9, 10, 8] (fun v => β1 = false → v = (Bo β2)),
    Fact.pure [8, 11] (fun v => v = (Bo (β1 || β2)))]) (by simp [Fact.pure, Fact.mem]) ?_
  refine RW_d _ rfl (fun v => by dsimp only [List.set]; try rfl) (fun u hu hF => ?_) (fun v4 => ?_)
  · clear hF
    refine doesG_un rfl ?_
    refine (does_move (u := (Fd x)) (ev rfl)).mono ?_; rintro _ _ ⟨rfl, rfl⟩
    exact ⟨rfl, Ext.refl _⟩
  refine RW_d _ rfl (fun v => by dsimp only [List.set]; try rfl) (fun u hu hF => ?_) (fun v5 => ?_)
  · clear hF
    refine doesG_un rfl ?_
    refine (does_move (u := (Fd x)) (ev rfl)).mono ?_; rintro _ _ ⟨rfl, rfl⟩
    exact ⟨rfl, Ext.refl _⟩
  refine RW_d _ rfl (fun v => by dsimp only [List.set]; try rfl) (fun u hu hF => ?_) (fun v6 => ?_)
  · have h5_ : v4 = (Fd x) := hF.1
    have h6_ : v5 = (Fd x) := hF.2.1
    clear hF
    refine doesG_un rfl ?_
    obtain rfl := h5_
    obtain rfl := h6_
    refine (does_fcmp (.inr (.inl rfl)) (ev rfl) (ev rfl)).mono ?_; rintro _ _ ⟨rfl, rfl⟩
    exact ⟨(by first | rfl | (show _ = _; simp only [hβ1]; done) | (show _ = _; simp only [hβ1]; rfl)), Ext.refl _⟩
  refine RW_d _ rfl (fun v => by dsimp only [List.set]; try rfl) (fun u hu hF => ?_) (fun v7 => ?_)
  · have h7_ : v6 = (Bo β1) := hF.1
    clear hF
    refine doesG_un rfl ?_
    obtain rfl := h7_
    refine (does_move (u := (Bo β1)) (ev rfl)).mono ?_; rintro _ _ ⟨rfl, rfl⟩
    exact ⟨rfl, Ext.refl _⟩
  refine RW_d _ rfl (fun v => by dsimp only [List.set]; try rfl) (fun u hu hF => ?_) (fun v8 => ?_)
  · have h8_ : v7 = (Bo β1) := hF.1
    clear hF
    obtain rfl := h8_
    refine doesG_g (b := β1) rfl (yld rfl rfl) (fun hg1 => ?_) (fun hc => ⟨fun hg1 => absurd hg1 hc, Ext.refl _⟩)
    refine (does_move (u := (Fd y)) (ev rfl)).mono ?_; rintro _ _ ⟨rfl, rfl⟩
    exact ⟨fun _ => rfl, Ext.refl _⟩
  refine RW_d _ rfl (fun v => by dsimp only [List.set]; try rfl) (fun u hu hF => ?_) (fun v9 => ?_)
  · have h8_ : v7 = (Bo β1) := hF.1
    clear hF
    obtain rfl := h8_
    refine doesG_g (b := β1) rfl (yld rfl rfl) (fun hg1 => ?_) (fun hc => ⟨fun hg1 => absurd hg1 hc, Ext.refl _⟩)
    refine (does_move (u := (Fd y)) (ev rfl)).mono ?_; rintro _ _ ⟨rfl, rfl⟩
    exact ⟨fun _ => rfl, Ext.refl _⟩
  refine RW_d _ rfl (fun v => by dsimp only [List.set]; try rfl) (fun u hu hF => ?_) (fun v10 => ?_)
  · have h9_ : β1 = false → v8 = (Fd y) := hF.1
    have h10_ : β1 = false → v9 = (Fd y) := hF.2.1
    have h8_ : v7 = (Bo β1) := hF.2.2.1
    clear hF
    obtain rfl := h8_
    refine doesG_g (b := β1) rfl (yld rfl rfl) (fun hg1 => ?_) (fun hc => ⟨fun hg1 => absurd hg1 hc, Ext.refl _⟩)
    obtain rfl := h9_ hg1
    obtain rfl := h10_ hg1
    refine (does_fcmp (.inr (.inl rfl)) (ev rfl) (ev rfl)).mono ?_; rintro _ _ ⟨rfl, rfl⟩
    exact ⟨fun _ => (by first | rfl | (show _ = _; simp only [hβ2]; done) | (show _ = _; simp only [hβ2]; rfl)), Ext.refl _⟩
  refine RW_d _ rfl (fun v => by dsimp only [List.set]; try rfl) (fun u hu hF => ?_) (fun v11 => ?_)
  · have h8_ : v7 = (Bo β1) := hF.1
    have h11_ : β1 = false → v10 = (Bo β2) := hF.2.1
    clear hF
    refine doesG_un rfl ?_
    skip
    obtain rfl := h8_
    refine (does_pick (b := β1) (u := (Bo true)) (v := v10) (ev rfl) (ev rfl) (ev rfl)).mono ?_; rintro _ _ ⟨rfl, rfl⟩; refine ⟨?_, Ext.refl _⟩; skip
    cases hbb : β1
    all_goals first | (show _ = _; simp only [↓reduceIte, Bool.true_and, Bool.false_and, Bool.true_or, Bool.false_or, Bool.false_eq_true]; done) | (have e_ := h11_ hbb; subst e_; show _ = _; simp only [↓reduceIte, Bool.true_and, Bool.false_and, Bool.true_or, Bool.false_or, Bool.false_eq_true]; done) | rfl | (have e_ := h11_ hbb; subst e_; rfl) | (simp [hbb] at h11_ ⊢; first | done | rfl | (subst h11_; rfl) | simp_all) | (simp [hbb] at h11_ ⊢; done)
  refine RW_fin ?_; intro w12 E13 hP14
  obtain ⟨⟨⟨⟨⟨⟨⟨⟨-, -⟩, -⟩, -⟩, -⟩, -⟩, -⟩, -⟩, q15⟩ := hP14
  have X16 := Ext.gr (Ext.refl w) E13
  have q15 : v11 = (Bo (β1 || β2)) := q15
  obtain rfl := q15
  show wpList _ _ _ _ (fr [_, _, _, _, _, _, _, _, _, _, _, _, _, _, _, _, _, _, _, _, _, _, _, _, _, _, _, _, _, _, _, _, _, _, _, _, _]) _
  refine wpList_nil (hK3 _ _ ?_)
  refine wp_cond_split (t := β1 || β2) (ev rfl) (fun c17 => ?_) (fun c17 => ?_)
  · have c17' := c17
    (try simp only [hβ1, hβ2] at c17')
    (try simp only [icmp, Bool.and_eq_true, Bool.or_eq_true, Bool.and_eq_false_iff, Bool.or_eq_false_iff, Bool.not_eq_true', Bool.not_eq_false', decide_eq_true_eq, decide_eq_false_iff_not, beq_iff_eq, bne_iff_ne, beq_eq_false_iff_ne, bne_eq_false_iff_eq] at c17')
    refine wp_seq_k fun K18 hK18 => ?_
    obtain ⟨β3, hβ3⟩ : ∃ b : Bool, b = (fcmp .neq (ford .f64 (cf .f64 x) (cf .f64 x))) := ⟨_, rfl⟩
    obtain ⟨β4, hβ4⟩ : ∃ b : Bool, b = (fcmp .neq (ford .f64 (cf .f64 y) (cf .f64 y))) := ⟨_, rfl⟩
    refine region_text (
      [Fact.pure [] (fun v => v = (Fd x)),
    Fact.pure [] (fun v => v = (Fd x)),
    Fact.pure [13, 14] (fun v => v = (Bo β3)),
    Fact.pure [15] (fun v => v = (Bo β3)),
    Fact.pure [16] (fun v => β3 = true → v = (Fd y)),
    Fact.pure [16] (fun v => β3 = true → v = (Fd y)),
    Fact.pure [17, 18, 16] (fun v => β3 = true → v = (Bo β4)),
    Fact.pure [16, 19] (fun v => v = (Bo (β3 && β4)))]) (by simp [Fact.pure, Fact.mem]) ?_
    refine RW_d _ rfl (fun v => by dsimp only [List.set]; try rfl) (fun u hu hF => ?_) (fun v19 => ?_)
    · clear hF
      refine doesG_un rfl ?_
      refine (does_move (u := (Fd x)) (ev rfl)).mono ?_; rintro _ _ ⟨rfl, rfl⟩
      exact ⟨rfl, Ext.refl _⟩
    refine RW_d _ rfl (fun v => by dsimp only [List.set]; try rfl) (fun u hu hF => ?_) (fun v20 => ?_)
    · clear hF
      refine doesG_un rfl ?_
      refine (does_move (u := (Fd x)) (ev rfl)).mono ?_; rintro _ _ ⟨rfl, rfl⟩
      exact ⟨rfl, Ext.refl _⟩
    refine RW_d _ rfl (fun v => by dsimp only [List.set]; try rfl) (fun u hu hF => ?_) (fun v21 => ?_)
    · have h13_ : v19 = (Fd x) := hF.1
      have h14_ : v20 = (Fd x) := hF.2.1
      clear hF
      refine doesG_un rfl ?_
      obtain rfl := h13_
      obtain rfl := h14_
      refine (does_fcmp (.inr (.inl rfl)) (ev rfl) (ev rfl)).mono ?_; rintro _ _ ⟨rfl, rfl⟩
      exact ⟨(by first | rfl | (show _ = _; simp only [hβ3]; done) | (show _ = _; simp only [hβ3]; rfl)), Ext.refl _⟩
    refine RW_d _ rfl (fun v => by dsimp only [List.set]; try rfl) (fun u hu hF => ?_) (fun v22 => ?_)
    · have h15_ : v21 = (Bo β3) := hF.1
      clear hF
      refine doesG_un rfl ?_
      obtain rfl := h15_
      refine (does_move (u := (Bo β3)) (ev rfl)).mono ?_; rintro _ _ ⟨rfl, rfl⟩
      exact ⟨rfl, Ext.refl _⟩
    refine RW_d _ rfl (fun v => by dsimp only [List.set]; try rfl) (fun u hu hF => ?_) (fun v23 => ?_)
    · have h16_ : v22 = (Bo β3) := hF.1
      clear hF
      obtain rfl := h16_
      refine doesG_g (b := β3) rfl (yld rfl rfl) (fun hg1 => ?_) (fun hc => ⟨fun hg1 => absurd hg1 hc, Ext.refl _⟩)
      refine (does_move (u := (Fd y)) (ev rfl)).mono ?_; rintro _ _ ⟨rfl, rfl⟩
      exact ⟨fun _ => rfl, Ext.refl _⟩
    refine RW_d _ rfl (fun v => by dsimp only [List.set]; try rfl) (fun u hu hF => ?_) (fun v24 => ?_)
    · have h16_ : v22 = (Bo β3) := hF.1
      clear hF
      obtain rfl := h16_
      refine doesG_g (b := β3) rfl (yld rfl rfl) (fun hg1 => ?_) (fun hc => ⟨fun hg1 => absurd hg1 hc, Ext.refl _⟩)
      refine (does_move (u := (Fd y)) (ev rfl)).mono ?_; rintro _ _ ⟨rfl, rfl⟩
      exact ⟨fun _ => rfl, Ext.refl _⟩
    refine RW_d _ rfl (fun v => by dsimp only [List.set]; try rfl) (fun u hu hF => ?_) (fun v25 => ?_)
    · have h17_ : β3 = true → v23 = (Fd y) := hF.1
      have h18_ : β3 = true → v24 = (Fd y) := hF.2.1
      have h16_ : v22 = (Bo β3) := hF.2.2.1
      clear hF
      obtain rfl := h16_
      refine doesG_g (b := β3) rfl (yld rfl rfl) (fun hg1 => ?_) (fun hc => ⟨fun hg1 => absurd hg1 hc, Ext.refl _⟩)
      obtain rfl := h17_ hg1
      obtain rfl := h18_ hg1
      refine (does_fcmp (.inr (.inl rfl)) (ev rfl) (ev rfl)).mono ?_; rintro _ _ ⟨rfl, rfl⟩
      exact ⟨fun _ => (by first | rfl | (show _ = _; simp only [hβ4]; done) | (show _ = _; simp only [hβ4]; rfl)), Ext.refl _⟩
    refine RW_d _ rfl (fun v => by dsimp only [List.set]; try rfl) (fun u hu hF => ?_) (fun v26 => ?_)
    · have h16_ : v22 = (Bo β3) := hF.1
      have h19_ : β3 = true → v25 = (Bo β4) := hF.2.1
      clear hF
      refine doesG_un rfl ?_
      skip
      obtain rfl := h16_
      refine (does_pick (b := β3) (u := v25) (v := (Bo false)) (ev rfl) (ev rfl) (ev rfl)).mono ?_; rintro _ _ ⟨rfl, rfl⟩; refine ⟨?_, Ext.refl _⟩; skip
      cases hbb : β3
      all_goals first | (show _ = _; simp only [↓reduceIte, Bool.true_and, Bool.false_and, Bool.true_or, Bool.false_or, Bool.false_eq_true]; done) | (have e_ := h19_ hbb; subst e_; show _ = _; simp only [↓reduceIte, Bool.true_and, Bool.false_and, Bool.true_or, Bool.false_or, Bool.false_eq_true]; done) | rfl | (have e_ := h19_ hbb; subst e_; rfl) | (simp [hbb] at h19_ ⊢; first | done | rfl | (subst h19_; rfl) | simp_all) | (simp [hbb] at h19_ ⊢; done)
    refine RW_fin ?_; intro w27 E28 hP29
    obtain ⟨⟨⟨⟨⟨⟨⟨⟨-, -⟩, -⟩, -⟩, -⟩, -⟩, -⟩, -⟩, q30⟩ := hP29
    have X31 := Ext.gr X16 E28
    have q30 : v26 = (Bo (β3 && β4)) := q30
    obtain rfl := q30
    show wpList _ _ _ _ (fr [_, _, _, _, _, _, _, _, _, _, _, _, _, _, _, _, _, _, _, _, _, _, _, _, _, _, _, _, _, _, _, _, _, _, _, _, _]) _
    refine q_is rfl rfl (does_assign (u := (Bo (β3 && β4))) (ev rfl)) (by dsimp only [List.set]; try rfl) ?_
    refine wpList_nil (hK18 _ _ ?_)
    refine wp_ret ?_
    dsimp only [Exit.then, Exit.inBlock]
    refine ret_val (v := (Bo (β3 && β4))) (res_T rfl (slot rfl)) X31 ?_
    try simp only [hβ1, hβ2, hβ3, hβ4] at c17
    have x32 : (sameF (cf .f64 x) (cf .f64 y)) = (β3 && β4) := by first | with_reducible rfl | (simp only [sameF, hβ1, hβ2, hβ3, hβ4, c17]; done) | (simp [sameF, hβ1, hβ2, hβ3, hβ4, c17]; done) | (revert c17; simp +contextual [sameF, hβ1, hβ2, hβ3, hβ4]; done) | (rcases c17' with hh | hh <;> simp only [hh, sameF, hβ1, hβ2, hβ3, hβ4, c17]; done) | (rcases c17' with hh | hh <;> simp_all [sameF]; done) | (rcases c17' with hh | hh | hh <;> simp_all [sameF]; done) | (rcases c17' with hh | hh | hh | hh <;> simp_all [sameF]; done) | (simp_all [sameF]; done) | rfl
    exact (by first | with_reducible rfl | rw [x32] | rfl)
  have c17' := c17
  (try simp only [hβ1, hβ2] at c17')
  (try simp only [icmp, Bool.and_eq_true, Bool.or_eq_true, Bool.and_eq_false_iff, Bool.or_eq_false_iff, Bool.not_eq_true', Bool.not_eq_false', decide_eq_true_eq, decide_eq_false_iff_not, beq_iff_eq, bne_iff_ne, beq_eq_false_iff_ne, bne_eq_false_iff_eq] at c17')
  refine wp_skip (hK2 _ _ ?_)
  refine wp_seq_k fun K33 hK33 => ?_
  refine wp_seq_k fun K34 hK34 => ?_
  obtain ⟨β5, hβ5⟩ : ∃ b : Bool, b = (fcmp .eql (ford .f64 (cf .f64 x) (cf .f64 0))) := ⟨_, rfl⟩
  obtain ⟨β6, hβ6⟩ : ∃ b : Bool, b = (fcmp .eql (ford .f64 (cf .f64 y) (cf .f64 0))) := ⟨_, rfl⟩
  refine region_text (
    [Fact.pure [] (fun v => v = (Fd x)),
    Fact.pure [21] (fun v => v = (Bo β5)),
    Fact.pure [22] (fun v => v = (Bo β5)),
    Fact.pure [23] (fun v => β5 = true → v = (Fd y)),
    Fact.pure [24, 23] (fun v => β5 = true → v = (Bo β6)),
    Fact.pure [23, 25] (fun v => v = (Bo (β5 && β6)))]) (by simp [Fact.pure, Fact.mem]) ?_
  refine RW_d _ rfl (fun v => by dsimp only [List.set]; try rfl) (fun u hu hF => ?_) (fun v35 => ?_)
  · clear hF
    refine doesG_un rfl ?_
    refine (does_move (u := (Fd x)) (ev rfl)).mono ?_; rintro _ _ ⟨rfl, rfl⟩
    exact ⟨rfl, Ext.refl _⟩
  refine RW_d _ rfl (fun v => by dsimp only [List.set]; try rfl) (fun u hu hF => ?_) (fun v36 => ?_)
  · have h21_ : v35 = (Fd x) := hF.1
    clear hF
    refine doesG_un rfl ?_
    obtain rfl := h21_
    refine (does_fcmp (.inl rfl) (ev rfl) (ev rfl)).mono ?_; rintro _ _ ⟨rfl, rfl⟩
    exact ⟨(by first | rfl | (show _ = _; simp only [hβ5]; done) | (show _ = _; simp only [hβ5]; rfl)), Ext.refl _⟩
  refine RW_d _ rfl (fun v => by dsimp only [List.set]; try rfl) (fun u hu hF => ?_) (fun v37 => ?_)
  · have h22_ : v36 = (Bo β5) := hF.1
    clear hF
    refine doesG_un rfl ?_
    obtain rfl := h22_
    refine (does_move (u := (Bo β5)) (ev rfl)).mono ?_; rintro _ _ ⟨rfl, rfl⟩
    exact ⟨rfl, Ext.refl _⟩
  refine RW_d _ rfl (fun v => by dsimp only [List.set]; try rfl) (fun u hu hF => ?_) (fun v38 => ?_)
  · have h23_ : v37 = (Bo β5) := hF.1
    clear hF
    obtain rfl := h23_
    refine doesG_g (b := β5) rfl (yld rfl rfl) (fun hg1 => ?_) (fun hc => ⟨fun hg1 => absurd hg1 hc, Ext.refl _⟩)
    refine (does_move (u := (Fd y)) (ev rfl)).mono ?_; rintro _ _ ⟨rfl, rfl⟩
    exact ⟨fun _ => rfl, Ext.refl _⟩
  refine RW_d _ rfl (fun v => by dsimp only [List.set]; try rfl) (fun u hu hF => ?_) (fun v39 => ?_)
  · have h24_ : β5 = true → v38 = (Fd y) := hF.1
    have h23_ : v37 = (Bo β5) := hF.2.1
    clear hF
    obtain rfl := h23_
    refine doesG_g (b := β5) rfl (yld rfl rfl) (fun hg1 => ?_) (fun hc => ⟨fun hg1 => absurd hg1 hc, Ext.refl _⟩)
    obtain rfl := h24_ hg1
    refine (does_fcmp (.inl rfl) (ev rfl) (ev rfl)).mono ?_; rintro _ _ ⟨rfl, rfl⟩
    exact ⟨fun _ => (by first | rfl | (show _ = _; simp only [hβ6]; done) | (show _ = _; simp only [hβ6]; rfl)), Ext.refl _⟩
  refine RW_d _ rfl (fun v => by dsimp only [List.set]; try rfl) (fun u hu hF => ?_) (fun v40 => ?_)
  · have h23_ : v37 = (Bo β5) := hF.1
    have h25_ : β5 = true → v39 = (Bo β6) := hF.2.1
    clear hF
    refine doesG_un rfl ?_
    skip
    obtain rfl := h23_
    refine (does_pick (b := β5) (u := v39) (v := (Bo false)) (ev rfl) (ev rfl) (ev rfl)).mono ?_; rintro _ _ ⟨rfl, rfl⟩; refine ⟨?_, Ext.refl _⟩; skip
    cases hbb : β5
    all_goals first | (show _ = _; simp only [↓reduceIte, Bool.true_and, Bool.false_and, Bool.true_or, Bool.false_or, Bool.false_eq_true]; done) | (have e_ := h25_ hbb; subst e_; show _ = _; simp only [↓reduceIte, Bool.true_and, Bool.false_and, Bool.true_or, Bool.false_or, Bool.false_eq_true]; done) | rfl | (have e_ := h25_ hbb; subst e_; rfl) | (simp [hbb] at h25_ ⊢; first | done | rfl | (subst h25_; rfl) | simp_all) | (simp [hbb] at h25_ ⊢; done)
  refine RW_fin ?_; intro w41 E42 hP43
  obtain ⟨⟨⟨⟨⟨⟨-, -⟩, -⟩, -⟩, -⟩, -⟩, q44⟩ := hP43
  have X45 := Ext.gr X16 E42
  have q44 : v40 = (Bo (β5 && β6)) := q44
  obtain rfl := q44
  show wpList _ _ _ _ (fr [_, _, _, _, _, _, _, _, _, _, _, _, _, _, _, _, _, _, _, _, _, _, _, _, _, _, _, _, _, _, _, _, _, _, _, _, _]) _
  refine wpList_nil (hK34 _ _ ?_)
  refine wp_cond_split (t := β5 && β6) (ev rfl) (fun c46 => ?_) (fun c46 => ?_)
  · have c46' := c46
    (try simp only [hβ1, hβ2, hβ5, hβ6] at c46')
    (try simp only [icmp, Bool.and_eq_true, Bool.or_eq_true, Bool.and_eq_false_iff, Bool.or_eq_false_iff, Bool.not_eq_true', Bool.not_eq_false', decide_eq_true_eq, decide_eq_false_iff_not, beq_iff_eq, bne_iff_ne, beq_eq_false_iff_ne, bne_eq_false_iff_eq] at c46')
    refine wp_seq_k fun K47 hK47 => ?_
    refine wp_region_lit ?_
    refine q_is rfl rfl (does_move (u := (Fd x)) (ev rfl)) (by dsimp only [List.set]; try rfl) ?_
    refine seqd rfl rfl (does_float (.inr (.inr (.inr rfl))) (ev rfl) (ev rfl)) ?_; rintro _ w51 ⟨r48, rfl, h49, E50⟩
    have X52 := Ext.gr X45 E50
    show wpList _ _ _ _ (fr [_, _, _, _, _, _, _, _, _, _, _, _, _, _, _, _, _, _, _, _, _, _, _, _, _, _, _, _, _, _, _, _, _, _, _, _, _]) _
    refine q_is rfl rfl (does_fcmp (.inr (.inr (.inr (.inr (.inl rfl))))) (ev rfl) (ev rfl)) (by dsimp only [List.set]; try rfl) ?_
    refine q_is rfl rfl (does_move (u := (Fd y)) (ev rfl)) (by dsimp only [List.set]; try rfl) ?_
    refine seqd rfl rfl (does_float (.inr (.inr (.inr rfl))) (ev rfl) (ev rfl)) ?_; rintro _ w56 ⟨r53, rfl, h54, E55⟩
    have X57 := Ext.gr X52 E55
    show wpList _ _ _ _ (fr [_, _, _, _, _, _, _, _, _, _, _, _, _, _, _, _, _, _, _, _, _, _, _, _, _, _, _, _, _, _, _, _, _, _, _, _, _]) _
    refine q_is rfl rfl (does_fcmp (.inr (.inr (.inr (.inr (.inl rfl))))) (ev rfl) (ev rfl)) (by dsimp only [List.set]; try rfl) ?_
    refine q_is rfl rfl (does_beq (p := (fcmp .gtr (ford .f64 (cf .f64 r48) (cf .f64 0)))) (q := (fcmp .gtr (ford .f64 (cf .f64 r53) (cf .f64 0)))) Try.underlying4 (ev rfl) (ev rfl)) (by dsimp only [List.set]; try rfl) ?_
    refine q_is rfl rfl (does_assign (u := (Bo ((fcmp .gtr (ford .f64 (cf .f64 r48) (cf .f64 0))) == (fcmp .gtr (ford .f64 (cf .f64 r53) (cf .f64 0)))))) (ev rfl)) (by dsimp only [List.set]; try rfl) ?_
    refine wpList_nil (hK47 _ _ ?_)
    refine wp_ret ?_
    dsimp only [Exit.then, Exit.inBlock]
    refine ret_val (v := (Bo ((fcmp .gtr (ford .f64 (cf .f64 r48) (cf .f64 0))) == (fcmp .gtr (ford .f64 (cf .f64 r53) (cf .f64 0)))))) (res_T rfl (slot rfl)) X57 ?_
    try simp only [hβ1, hβ2, hβ5, hβ6, h49, h54] at c17 c46
    have x58 : (sameF (cf .f64 x) (cf .f64 y)) = ((fcmp .gtr (ford .f64 (cf .f64 r48) (cf .f64 0))) == (fcmp .gtr (ford .f64 (cf .f64 r53) (cf .f64 0)))) := by first | with_reducible rfl | (simp only [sameF, hβ1, hβ2, hβ5, hβ6, h49, h54, c17, c46]; done) | (simp [sameF, hβ1, hβ2, hβ5, hβ6, h49, h54, c17, c46]; done) | (revert c17 c46; simp +contextual [sameF, hβ1, hβ2, hβ5, hβ6, h49, h54]; done) | (rcases c17' with hh | hh <;> simp only [hh, sameF, hβ1, hβ2, hβ5, hβ6, h49, h54, c17, c46]; done) | (rcases c46' with hh | hh <;> simp only [hh, sameF, hβ1, hβ2, hβ5, hβ6, h49, h54, c17, c46]; done) | (rcases c46' with hh | hh <;> simp_all [sameF]; done) | (rcases c46' with hh | hh | hh <;> simp_all [sameF]; done) | (rcases c46' with hh | hh | hh | hh <;> simp_all [sameF]; done) | (simp_all [sameF]; done) | rfl
    exact (by first | with_reducible rfl | rw [x58] | rfl)
  have c46' := c46
  (try simp only [hβ1, hβ2, hβ5, hβ6] at c46')
  (try simp only [icmp, Bool.and_eq_true, Bool.or_eq_true, Bool.and_eq_false_iff, Bool.or_eq_false_iff, Bool.not_eq_true', Bool.not_eq_false', decide_eq_true_eq, decide_eq_false_iff_not, beq_iff_eq, bne_iff_ne, beq_eq_false_iff_ne, bne_eq_false_iff_eq] at c46')
  refine wp_skip (hK33 _ _ ?_)
  refine wp_seq_k fun K59 hK59 => ?_
  refine wp_region_lit ?_
  refine q_is rfl rfl (does_move (u := (Fd x)) (ev rfl)) (by dsimp only [List.set]; try rfl) ?_
  refine q_is rfl rfl (does_move (u := (Fd y)) (ev rfl)) (by dsimp only [List.set]; try rfl) ?_
  refine q_is rfl rfl (does_fcmp (.inl rfl) (ev rfl) (ev rfl)) (by dsimp only [List.set]; try rfl) ?_
  refine q_is rfl rfl (does_assign (u := (Bo (fcmp .eql (ford .f64 (cf .f64 x) (cf .f64 y))))) (ev rfl)) (by dsimp only [List.set]; try rfl) ?_
  refine wpList_nil (hK59 _ _ ?_)
  refine wp_ret ?_
  refine ret_val (v := (Bo (fcmp .eql (ford .f64 (cf .f64 x) (cf .f64 y))))) (res_T rfl (slot rfl)) X45 ?_
  try simp only [hβ1, hβ2, hβ5, hβ6] at c17 c46
  have x60 : (sameF (cf .f64 x) (cf .f64 y)) = (fcmp .eql (ford .f64 (cf .f64 x) (cf .f64 y))) := by first | with_reducible rfl | (simp only [sameF, hβ1, hβ2, hβ5, hβ6, c17, c46]; done) | (simp [sameF, hβ1, hβ2, hβ5, hβ6, c17, c46]; done) | (revert c17 c46; simp +contextual [sameF, hβ1, hβ2, hβ5, hβ6]; done) | (rcases c17' with hh | hh <;> simp only [hh, sameF, hβ1, hβ2, hβ5, hβ6, c17, c46]; done) | (rcases c46' with hh | hh <;> simp only [hh, sameF, hβ1, hβ2, hβ5, hβ6, c17, c46]; done) | (rcases c46' with hh | hh <;> simp_all [sameF]; done) | (rcases c46' with hh | hh | hh <;> simp_all [sameF]; done) | (rcases c46' with hh | hh | hh | hh <;> simp_all [sameF]; done) | (simp_all [sameF]; done) | rfl
  exact (by first | with_reducible rfl | rw [x60] | rfl)

/- laws.eqVector -/
theorem c_laws_eqVector (a : List Value) (A_a : V3) (b : List Value) (A_b : V3) (w : World) (hv_a : RV3 w A_a a) (hv_b : RV3 w A_b b) : Gives Try.prog 52 #[(.agg a.toArray), (.agg b.toArray)] w (fun v w' => v = (Bo (sameV A_a A_b))) := by
  obtain ⟨r1, r3, r5, rfl, h2, h4, h6⟩ := hv_a
  obtain ⟨r7, r9, r11, rfl, h8, h10, h12⟩ := hv_b
  refine enter [(.agg #[(Fl r1), (Fl r3), (Fl r5)]), (.agg #[(Fl r7), (Fl r9), (Fl r11)]), Ud, Ud, Ud, Ud, Ud, Ud, Ud, Ud, Ud, Ud, Ud, Ud, Ud, Ud, Ud, Ud, Ud, Ud, Ud, Ud, Ud, Ud, Ud, Ud, Ud, Ud, Ud] Try.func52 rfl Try.ntmps52 rfl ?_
  refine wp_seq_k fun K13 hK13 => ?_
  refine wp_region_lit ?_
  refine seqd rfl rfl (does_box (u := (.agg #[(Fl r1), (Fl r3), (Fl r5)])) (ev rfl)) ?_; rintro _ w18 ⟨b14, rfl, hb15, hB16, E17⟩
  have g19 : w.heap.size ≤ b14 := Nat.le_trans (Below.size (Ext.refl w)) hb15
  change Blk _ _ [(Fl r1), (Fl r3), (Fl r5)] at hB16
  have X20 := Ext.gr (Ext.refl w) E17
  show wpList _ _ _ _ (fr [_, _, _, _, _, _, _, _, _, _, _, _, _, _, _, _, _, _, _, _, _, _, _, _, _, _, _, _, _]) _
  refine seqd rfl rfl (does_box (u := (.agg #[(Fl r7), (Fl r9), (Fl r11)])) (ev rfl)) ?_; rintro _ w25 ⟨b21, rfl, hb22, hB23, E24⟩
  have n26 : b14 < b21 := Nat.lt_of_lt_of_le (Blk.lt hB16) hb22
  have g27 : w.heap.size ≤ b21 := Nat.le_trans (Below.size X20) hb22
  change Blk _ _ [(Fl r7), (Fl r9), (Fl r11)] at hB23
  have X28 := Ext.gr X20 E24
  show wpList _ _ _ _ (fr [_, _, _, _, _, _, _, _, _, _, _, _, _, _, _, _, _, _, _, _, _, _, _, _, _, _, _, _, _]) _
  refine q_is rfl rfl (does_assign (u := (Bo false)) (ev rfl)) (by dsimp only [List.set]; try rfl) ?_
  refine wpList_nil (hK13 _ _ ?_)
  refine wp_seq_k fun K29 hK29 => ?_
  refine wp_seq_k fun K30 hK30 => ?_
  refine wp_region_lit ?_
  refine q_is rfl rfl (does_fieldAddr (ev rfl) fa57_0) (by dsimp only [List.set]; try rfl) ?_
  refine q_is rfl rfl (does_load (u := (Fl r1)) (ev rfl) Try.isAgg55 (Cells.at (Blk.cells (hB16.ext E24)) 0 rfl)) (by dsimp only [List.set]; try rfl) ?_
  refine seqd rfl rfl (does_widen Try.underlying55 Try.underlying85 (ev rfl)) ?_; rintro _ w34 ⟨r31, rfl, h32, E33⟩
  have X35 := Ext.gr X28 E33
  show wpList _ _ _ _ (fr [_, _, _, _, _, _, _, _, _, _, _, _, _, _, _, _, _, _, _, _, _, _, _, _, _, _, _, _, _]) _
  refine q_is rfl rfl (does_fieldAddr (ev rfl) fa57_0) (by dsimp only [List.set]; try rfl) ?_
  refine q_is rfl rfl (does_load (u := (Fl r7)) (ev rfl) Try.isAgg55 (Cells.at (Blk.cells (hB23.ext E33)) 0 rfl)) (by dsimp only [List.set]; try rfl) ?_
  refine seqd rfl rfl (does_widen Try.underlying55 Try.underlying85 (ev rfl)) ?_; rintro _ w39 ⟨r36, rfl, h37, E38⟩
  have X40 := Ext.gr X35 E38
  show wpList _ _ _ _ (fr [_, _, _, _, _, _, _, _, _, _, _, _, _, _, _, _, _, _, _, _, _, _, _, _, _, _, _, _, _]) _
  refine seqd rfl rfl (does_call (args := #[(Fd r31), (Fd r36)]) cal61 (evs rfl) (c_laws_sameFloat r31 r36 _)) ?_; rintro _ w42 ⟨E41, rfl⟩
  have X43 := Ext.gr X40 E41
  show wpList _ _ _ _ (fr [_, _, _, _, _, _, _, _, _, _, _, _, _, _, _, _, _, _, _, _, _, _, _, _, _, _, _, _, _]) _
  refine q_is rfl rfl (does_not (ev rfl)) (by dsimp only [List.set]; try rfl) ?_
  refine wpList_nil (hK30 _ _ ?_)
  refine wp_cond_split (t := !(sameF (cf .f64 r31) (cf .f64 r36))) (ev rfl) (fun c44 => ?_) (fun c44 => ?_)
  · rw [Bool.not_eq_true'] at c44
    have c44' := c44
    refine wp_seq_k fun K45 hK45 => ?_
    refine wp_region_lit ?_
    refine q_is rfl rfl (does_assign (u := (Bo false)) (ev rfl)) (by dsimp only [List.set]; try rfl) ?_
    refine wpList_nil (hK45 _ _ ?_)
    refine wp_ret ?_
    dsimp only [Exit.then, Exit.inBlock]
    refine ret_val (v := (Bo false)) (res_T rfl (slot rfl)) X43 ?_
    try simp only [h2, h4, h6, h8, h10, h12, h32, h37] at c44
    have x46 : (sameV A_a A_b) = false := by first | with_reducible rfl | (simp only [sameV, h2, h4, h6, h8, h10, h12, h32, h37, c44]; done) | (simp [sameV, h2, h4, h6, h8, h10, h12, h32, h37, c44]; done) | (revert c44; simp +contextual [sameV, h2, h4, h6, h8, h10, h12, h32, h37]; done) | (rcases c44' with hh | hh <;> simp only [hh, sameV, h2, h4, h6, h8, h10, h12, h32, h37, c44]; done) | (rcases c44' with hh | hh <;> simp_all [sameV]; done) | (rcases c44' with hh | hh | hh <;> simp_all [sameV]; done) | (rcases c44' with hh | hh | hh | hh <;> simp_all [sameV]; done) | (simp_all [sameV]; done) | rfl
    exact (by first | with_reducible rfl | rw [x46] | rfl)
  rw [Bool.not_eq_false'] at c44
  have c44' := c44
  refine wp_skip (hK29 _ _ ?_)
  refine wp_seq_k fun K47 hK47 => ?_
  refine wp_seq_k fun K48 hK48 => ?_
  refine wp_region_lit ?_
  refine q_is rfl rfl (does_fieldAddr (ev rfl) fa57_1) (by dsimp only [List.set]; try rfl) ?_
  refine q_is rfl rfl (does_load (u := (Fl r3)) (ev rfl) Try.isAgg55 (Cells.at (Blk.cells ((((hB16.ext E24).ext E33).ext E38).ext E41)) 1 rfl)) (by dsimp only [List.set]; try rfl) ?_
  refine seqd rfl rfl (does_widen Try.underlying55 Try.underlying85 (ev rfl)) ?_; rintro _ w52 ⟨r49, rfl, h50, E51⟩
  have X53 := Ext.gr X43 E51
  show wpList _ _ _ _ (fr [_, _, _, _, _, _, _, _, _, _, _, _, _, _, _, _, _, _, _, _, _, _, _, _, _, _, _, _, _]) _
  refine q_is rfl rfl (does_fieldAddr (ev rfl) fa57_1) (by dsimp only [List.set]; try rfl) ?_
  refine q_is rfl rfl (does_load (u := (Fl r9)) (ev rfl) Try.isAgg55 (Cells.at (Blk.cells ((((hB23.ext E33).ext E38).ext E41).ext E51)) 1 rfl)) (by dsimp only [List.set]; try rfl) ?_
  refine seqd rfl rfl (does_widen Try.underlying55 Try.underlying85 (ev rfl)) ?_; rintro _ w57 ⟨r54, rfl, h55, E56⟩
  have X58 := Ext.gr X53 E56
  show wpList _ _ _ _ (fr [_, _, _, _, _, _, _, _, _, _, _, _, _, _, _, _, _, _, _, _, _, _, _, _, _, _, _, _, _]) _
  refine seqd rfl rfl (does_call (args := #[(Fd r49), (Fd r54)]) cal61 (evs rfl) (c_laws_sameFloat r49 r54 _)) ?_; rintro _ w60 ⟨E59, rfl⟩
  have X61 := Ext.gr X58 E59
  show wpList _ _ _ _ (fr [_, _, _, _, _, _, _, _, _, _, _, _, _, _, _, _, _, _, _, _, _, _, _, _, _, _, _, _, _]) _
  refine q_is rfl rfl (does_not (ev rfl)) (by dsimp only [List.set]; try rfl) ?_
  refine wpList_nil (hK48 _ _ ?_)
  refine wp_cond_split (t := !(sameF (cf .f64 r49) (cf .f64 r54))) (ev rfl) (fun c62 => ?_) (fun c62 => ?_)
  · rw [Bool.not_eq_true'] at c62
    have c62' := c62
    refine wp_seq_k fun K63 hK63 => ?_
    refine wp_region_lit ?_
    refine q_is rfl rfl (does_assign (u := (Bo false)) (ev rfl)) (by dsimp only [List.set]; try rfl) ?_
    refine wpList_nil (hK63 _ _ ?_)
    refine wp_ret ?_
    dsimp only [Exit.then, Exit.inBlock]
    refine ret_val (v := (Bo false)) (res_T rfl (slot rfl)) X61 ?_
    try simp only [h2, h4, h6, h8, h10, h12, h32, h37, h50, h55] at c44 c62
    have x64 : (sameV A_a A_b) = false := by first | with_reducible rfl | (simp only [sameV, h2, h4, h6, h8, h10, h12, h32, h37, h50, h55, c44, c62]; done) | (simp [sameV, h2, h4, h6, h8, h10, h12, h32, h37, h50, h55, c44, c62]; done) | (revert c44 c62; simp +contextual [sameV, h2, h4, h6, h8, h10, h12, h32, h37, h50, h55]; done) | (rcases c44' with hh | hh <;> simp only [hh, sameV, h2, h4, h6, h8, h10, h12, h32, h37, h50, h55, c44, c62]; done) | (rcases c62' with hh | hh <;> simp only [hh, sameV, h2, h4, h6, h8, h10, h12, h32, h37, h50, h55, c44, c62]; done) | (rcases c62' with hh | hh <;> simp_all [sameV]; done) | (rcases c62' with hh | hh | hh <;> simp_all [sameV]; done) | (rcases c62' with hh | hh | hh | hh <;> simp_all [sameV]; done) | (simp_all [sameV]; done) | rfl
    exact (by first | with_reducible rfl | rw [x64] | rfl)
  rw [Bool.not_eq_false'] at c62
  have c62' := c62
  refine wp_skip (hK47 _ _ ?_)
  refine wp_seq_k fun K65 hK65 => ?_
  refine wp_seq_k fun K66 hK66 => ?_
  refine wp_region_lit ?_
  refine q_is rfl rfl (does_fieldAddr (ev rfl) fa57_2) (by dsimp only [List.set]; try rfl) ?_
  refine q_is rfl rfl (does_load (u := (Fl r5)) (ev rfl) Try.isAgg55 (Cells.at (Blk.cells (((((((hB16.ext E24).ext E33).ext E38).ext E41).ext E51).ext E56).ext E59)) 2 rfl)) (by dsimp only [List.set]; try rfl) ?_
  refine seqd rfl rfl (does_widen Try.underlying55 Try.underlying85 (ev rfl)) ?_; rintro _ w70 ⟨r67, rfl, h68, E69⟩
  have X71 := Ext.gr X61 E69
  show wpList _ _ _ _ (fr [_, _, _, _, _, _, _, _, _, _, _, _, _, _, _, _, _, _, _, _, _, _, _, _, _, _, _, _, _]) _
  refine q_is rfl rfl (does_fieldAddr (ev rfl) fa57_2) (by dsimp only [List.set]; try rfl) ?_
  refine q_is rfl rfl (does_load (u := (Fl r11)) (ev rfl) Try.isAgg55 (Cells.at (Blk.cells (((((((hB23.ext E33).ext E38).ext E41).ext E51).ext E56).ext E59).ext E69)) 2 rfl)) (by dsimp only [List.set]; try rfl) ?_
  refine seqd rfl rfl (does_widen Try.underlying55 Try.underlying85 (ev rfl)) ?_; rintro _ w75 ⟨r72, rfl, h73, E74⟩
  have X76 := Ext.gr X71 E74
  show wpList _ _ _ _ (fr [_, _, _, _, _, _, _, _, _, _, _, _, _, _, _, _, _, _, _, _, _, _, _, _, _, _, _, _, _]) _
  refine seqd rfl rfl (does_call (args := #[(Fd r67), (Fd r72)]) cal61 (evs rfl) (c_laws_sameFloat r67 r72 _)) ?_; rintro _ w78 ⟨E77, rfl⟩
  have X79 := Ext.gr X76 E77
  show wpList _ _ _ _ (fr [_, _, _, _, _, _, _, _, _, _, _, _, _, _, _, _, _, _, _, _, _, _, _, _, _, _, _, _, _]) _
  refine q_is rfl rfl (does_not (ev rfl)) (by dsimp only [List.set]; try rfl) ?_
  refine wpList_nil (hK66 _ _ ?_)
  refine wp_cond_split (t := !(sameF (cf .f64 r67) (cf .f64 r72))) (ev rfl) (fun c80 => ?_) (fun c80 => ?_)
  · rw [Bool.not_eq_true'] at c80
    have c80' := c80
    refine wp_seq_k fun K81 hK81 => ?_
    refine wp_region_lit ?_
    refine q_is rfl rfl (does_assign (u := (Bo false)) (ev rfl)) (by dsimp only [List.set]; try rfl) ?_
    refine wpList_nil (hK81 _ _ ?_)
    refine wp_ret ?_
    dsimp only [Exit.then, Exit.inBlock]
    refine ret_val (v := (Bo false)) (res_T rfl (slot rfl)) X79 ?_
    try simp only [h2, h4, h6, h8, h10, h12, h32, h37, h50, h55, h68, h73] at c44 c62 c80
    have x82 : (sameV A_a A_b) = false := by first | with_reducible rfl | (simp only [sameV, h2, h4, h6, h8, h10, h12, h32, h37, h50, h55, h68, h73, c44, c62, c80]; done) | (simp [sameV, h2, h4, h6, h8, h10, h12, h32, h37, h50, h55, h68, h73, c44, c62, c80]; done) | (revert c44 c62 c80; simp +contextual [sameV, h2, h4, h6, h8, h10, h12, h32, h37, h50, h55, h68, h73]; done) | (rcases c44' with hh | hh <;> simp only [hh, sameV, h2, h4, h6, h8, h10, h12, h32, h37, h50, h55, h68, h73, c44, c62, c80]; done) | (rcases c62' with hh | hh <;> simp only [hh, sameV, h2, h4, h6, h8, h10, h12, h32, h37, h50, h55, h68, h73, c44, c62, c80]; done) | (rcases c80' with hh | hh <;> simp only [hh, sameV, h2, h4, h6, h8, h10, h12, h32, h37, h50, h55, h68, h73, c44, c62, c80]; done) | (rcases c80' with hh | hh <;> simp_all [sameV]; done) | (rcases c80' with hh | hh | hh <;> simp_all [sameV]; done) | (rcases c80' with hh | hh | hh | hh <;> simp_all [sameV]; done) | (simp_all [sameV]; done) | rfl
    exact (by first | with_reducible rfl | rw [x82] | rfl)
  rw [Bool.not_eq_false'] at c80
  have c80' := c80
  refine wp_skip (hK65 _ _ ?_)
  refine wp_seq_k fun K83 hK83 => ?_
  refine wp_region_lit ?_
  refine q_is rfl rfl (does_assign (u := (Bo true)) (ev rfl)) (by dsimp only [List.set]; try rfl) ?_
  refine wpList_nil (hK83 _ _ ?_)
  refine wp_ret ?_
  refine ret_val (v := (Bo true)) (res_T rfl (slot rfl)) X79 ?_
  try simp only [h2, h4, h6, h8, h10, h12, h32, h37, h50, h55, h68, h73] at c44 c62 c80
  have x84 : (sameV A_a A_b) = true := by first | with_reducible rfl | (simp only [sameV, h2, h4, h6, h8, h10, h12, h32, h37, h50, h55, h68, h73, c44, c62, c80]; done) | (simp [sameV, h2, h4, h6, h8, h10, h12, h32, h37, h50, h55, h68, h73, c44, c62, c80]; done) | (revert c44 c62 c80; simp +contextual [sameV, h2, h4, h6, h8, h10, h12, h32, h37, h50, h55, h68, h73]; done) | (rcases c44' with hh | hh <;> simp only [hh, sameV, h2, h4, h6, h8, h10, h12, h32, h37, h50, h55, h68, h73, c44, c62, c80]; done) | (rcases c62' with hh | hh <;> simp only [hh, sameV, h2, h4, h6, h8, h10, h12, h32, h37, h50, h55, h68, h73, c44, c62, c80]; done) | (rcases c80' with hh | hh <;> simp only [hh, sameV, h2, h4, h6, h8, h10, h12, h32, h37, h50, h55, h68, h73, c44, c62, c80]; done) | (rcases c80' with hh | hh <;> simp_all [sameV]; done) | (rcases c80' with hh | hh | hh <;> simp_all [sameV]; done) | (rcases c80' with hh | hh | hh | hh <;> simp_all [sameV]; done) | (simp_all [sameV]; done) | rfl
  exact (by first | with_reducible rfl | rw [x84] | rfl)

/- laws.eqVectorS -/
theorem c_laws_eqVectorS (a : Value) (L_a : List V3) (b : Value) (L_b : List V3) (w : World) (hv_a : Sl RV3 3 w a L_a) (hv_b : Sl RV3 3 w b L_b) : Gives Try.prog 31 #[a, b] w (fun v w' => v = (Bo (sameX sameV L_a L_b))) := by
  have hlen_a := Sl.len hv_a; obtain ⟨p_a, q_a, rfl⟩ := Sl.shape hv_a
  have hlen_b := Sl.len hv_b; obtain ⟨p_b, q_b, rfl⟩ := Sl.shape hv_b
  refine enter [(.slice p_a L_a.length q_a), (.slice p_b L_b.length q_b), Ud, Ud, Ud, Ud, Ud, Ud, Ud, Ud, Ud, Ud, Ud, Ud, Ud, Ud, Ud, Ud, Ud, Ud, Ud, Ud, Ud, Ud, Ud, Ud, Ud] Try.func31 rfl Try.ntmps31 rfl ?_
  refine wp_seq_k fun K1 hK1 => ?_
  refine wp_region_lit ?_
  refine q_is rfl rfl (does_assign (u := (Bo false)) (ev rfl)) (by dsimp only [List.set]; try rfl) ?_
  refine wpList_nil (hK1 _ _ ?_)
  refine wp_seq_k fun K2 hK2 => ?_
  refine wp_seq_k fun K3 hK3 => ?_
  refine wp_region_lit ?_
  refine q_is rfl rfl (does_move (u := (.slice p_a L_a.length q_a)) (ev rfl)) (by dsimp only [List.set]; try rfl) ?_
  refine q_is rfl rfl (does_len_slice Try.underlying30 (ev rfl)) (by dsimp only [List.set]; try rfl) ?_
  refine q_is rfl rfl (does_move (u := (.slice p_b L_b.length q_b)) (ev rfl)) (by dsimp only [List.set]; try rfl) ?_
  refine q_is rfl rfl (does_len_slice Try.underlying30 (ev rfl)) (by dsimp only [List.set]; try rfl) ?_
  refine q_is rfl rfl (does_icmp (p := (L_a.length : Int)) (q := (L_b.length : Int)) (.inr (.inl rfl)) (ev rfl) (ev rfl)) (by dsimp only [List.set]; try rfl) ?_
  refine wpList_nil (hK3 _ _ ?_)
  refine wp_cond_split (t := icmp .neq (L_a.length : Int) (L_b.length : Int)) (ev rfl) (fun c4 => ?_) (fun c4 => ?_)
  · have c4' := c4
    (try simp only [icmp, Bool.and_eq_true, Bool.or_eq_true, Bool.and_eq_false_iff, Bool.or_eq_false_iff, Bool.not_eq_true', Bool.not_eq_false', decide_eq_true_eq, decide_eq_false_iff_not, beq_iff_eq, bne_iff_ne, beq_eq_false_iff_ne, bne_eq_false_iff_eq] at c4')
    refine wp_seq_k fun K5 hK5 => ?_
    refine wp_region_lit ?_
    refine q_is rfl rfl (does_assign (u := (Bo false)) (ev rfl)) (by dsimp only [List.set]; try rfl) ?_
    refine wpList_nil (hK5 _ _ ?_)
    refine wp_ret ?_
    dsimp only [Exit.then, Exit.inBlock]
    refine ret_val (v := (Bo false)) (res_T rfl (slot rfl)) (Ext.refl w) ?_
    have x6 : (sameX sameV L_a L_b) = false := by first | exact (sameX_len (by omega)) | exact (sameX_not (by omega) (by assumption) (by assumption) (by simp_all)) | exact (sameX_all (by omega) (by omega) hs)
    exact (by first | with_reducible rfl | rw [x6] | rfl)
  have c4' := c4
  (try simp only [icmp, Bool.and_eq_true, Bool.or_eq_true, Bool.and_eq_false_iff, Bool.or_eq_false_iff, Bool.not_eq_true', Bool.not_eq_false', decide_eq_true_eq, decide_eq_false_iff_not, beq_iff_eq, bne_iff_ne, beq_eq_false_iff_ne, bne_eq_false_iff_eq] at c4')
  refine wp_skip (hK2 _ _ ?_)
  refine wp_seq_k fun K7 hK7 => ?_
  refine wp_seq_k fun K8 hK8 => ?_
  refine wp_region_lit ?_
  refine q_is rfl rfl (does_assign (u := (Iv 0)) (ev rfl)) (by dsimp only [List.set]; try rfl) ?_
  refine wpList_nil (hK8 _ _ ?_)
  refine wp_block ?_
  refine loop_ghost (σ := Nat) (fun k a w' => ∃ u9 : Nat → Value, a = fr [(.slice p_a L_a.length q_a), (.slice p_b L_b.length q_b), Ud, Ud, (u9 4), (Iv (k : Int)), (.slice p_a L_a.length q_a), (Iv (L_a.length : Int)), (.slice p_b L_b.length q_b), (Iv (L_b.length : Int)), (Bo (icmp .neq (L_a.length : Int) (L_b.length : Int))), (u9 11), (u9 12), (u9 13), (u9 14), (u9 15), (u9 16), (u9 17), (u9 18), (u9 19), (u9 20), (u9 21), (u9 22), (u9 23), (u9 24), (u9 25), (u9 26)] ∧ Ext w w' ∧ (k ≤ L_a.length ∧ SameXTo sameV L_a L_b k)) (fun k => L_a.length - k) 0 ?_ ?_
  · refine ⟨fun t => (([(.slice p_a L_a.length q_a), (.slice p_b L_b.length q_b), Ud, Ud, (Bo false), (Iv 0), (.slice p_a L_a.length q_a), (Iv (L_a.length : Int)), (.slice p_b L_b.length q_b), (Iv (L_b.length : Int)), (Bo (icmp .neq (L_a.length : Int) (L_b.length : Int))), Ud, Ud, Ud, Ud, Ud, Ud, Ud, Ud, Ud, Ud, Ud, Ud, Ud, Ud, Ud, Ud] : List Value)[t]?).getD undef, rfl, Ext.refl _, ?_⟩
    exact ⟨Nat.zero_le _, SameXTo.zero⟩
  · rintro k a w10 ⟨u9, rfl, E11, ⟨hk, hs⟩⟩
    have X13 := Ext.gr (Ext.refl w) E11
    refine wp_seq_k fun K14 hK14 => ?_
    refine wp_seq_k fun K15 hK15 => ?_
    refine wp_region_lit ?_
    refine q_is rfl rfl (does_move (u := (Iv (k : Int))) (ev rfl)) (by dsimp only [List.set]; try rfl) ?_
    refine q_is rfl rfl (does_move (u := (.slice p_a L_a.length q_a)) (ev rfl)) (by dsimp only [List.set]; try rfl) ?_
    refine q_is rfl rfl (does_len_slice Try.underlying30 (ev rfl)) (by dsimp only [List.set]; try rfl) ?_
    refine q_is rfl rfl (does_icmp (p := (k : Int)) (q := (L_a.length : Int)) (.inr (.inr (.inl rfl))) (ev rfl) (ev rfl)) (by dsimp only [List.set]; try rfl) ?_
    refine wpList_nil (hK15 _ _ ?_)
    refine wp_cond_split (t := icmp .lss (k : Int) (L_a.length : Int)) (ev rfl) (fun c16 => ?_) (fun c16 => ?_)
    · have c16' := c16
      (try simp only [icmp, Bool.and_eq_true, Bool.or_eq_true, Bool.and_eq_false_iff, Bool.or_eq_false_iff, Bool.not_eq_true', Bool.not_eq_false', decide_eq_true_eq, decide_eq_false_iff_not, beq_iff_eq, bne_iff_ne, beq_eq_false_iff_ne, bne_eq_false_iff_eq] at c16')
      refine wp_skip (hK14 _ _ ?_)
      refine wp_seq_k fun K17 hK17 => ?_
      refine wp_block ?_
      refine wp_seq_k fun K18 hK18 => ?_
      obtain ⟨el1, hel1⟩ : ∃ e, L_a[k]? = some e := ⟨_, List.getElem?_eq_getElem (by omega)⟩
      obtain ⟨el2, hel2⟩ : ∃ e, L_b[k]? = some e := ⟨_, List.getElem?_eq_getElem (by omega)⟩
      refine region_draw (
        [Fact.pure [] (fun v => v = (.slice p_a L_a.length q_a)),
    Fact.pure [] (fun v => v = (Iv (k : Int))),
    Fact.mem [17, 18] (fun v w' => PtrR RV3 w' v el1) (by intro v w1 w2 hx h; exact h.ext RV3.mono hx),
    Fact.pure [19] (fun v => ∃ cs_1 : List Value, v = (.agg cs_1.toArray) ∧ RV3 w el1 cs_1),
    Fact.pure [] (fun v => v = (.slice p_b L_b.length q_b)),
    Fact.pure [] (fun v => v = (Iv (k : Int))),
    Fact.mem [21, 22] (fun v w' => PtrR RV3 w' v el2) (by intro v w1 w2 hx h; exact h.ext RV3.mono hx),
    Fact.pure [23] (fun v => ∃ cs_1 : List Value, v = (.agg cs_1.toArray) ∧ RV3 w el2 cs_1),
    Fact.pure [20, 24] (fun v => v = (Bo (sameV el1 el2))),
    Fact.pure [25] (fun v => v = (Bo (!(sameV el1 el2))))]) mixed (by kernel_rfl) (by intro _ _ d _ _ h; cases d <;> exact h) ?_
      obtain ⟨w19, hw21⟩ : ∃ w', w' = World.drew w10 := ⟨_, rfl⟩; rw [← hw21]; have E20 : Ext w10 w19 := by rw [hw21]; exact Ext.draw _
      clear hw21
      have X22 := Ext.gr X13 E20
      refine RW_d _ rfl (fun v => by dsimp only [List.set]; try rfl) (fun u hu hF => ?_) (fun v23 => ?_)
      · clear hF
        refine doesG_un rfl ?_
        refine (does_move (u := (.slice p_a L_a.length q_a)) (ev rfl)).mono ?_; rintro _ _ ⟨rfl, rfl⟩
        exact ⟨rfl, Ext.refl _⟩
      refine RW_d _ rfl (fun v => by dsimp only [List.set]; try rfl) (fun u hu hF => ?_) (fun v24 => ?_)
      · clear hF
        refine doesG_un rfl ?_
        refine (does_move (u := (Iv (k : Int))) (ev rfl)).mono ?_; rintro _ _ ⟨rfl, rfl⟩
        exact ⟨rfl, Ext.refl _⟩
      refine RW_d _ rfl (fun v => by dsimp only [List.set]; try rfl) (fun u hu hF => ?_) (fun v25 => ?_)
      · have h17_ : v23 = (.slice p_a L_a.length q_a) := hF.1
        have h18_ : v24 = (Iv (k : Int)) := hF.2.1
        clear hF
        refine doesG_un rfl ?_
        obtain rfl := h17_
        obtain rfl := h18_
        refine (does_indexSl (R := RV3) (i := (k : Int)) (xs := L_a) (e := el1) Try.underlying30 Try.sizeOf57 (ev rfl) (ev rfl) (Sl.ext (Sl.ext hv_a RV3.mono (Ext.gr X13 E20)) RV3.mono hu) (by omega) hel1).mono ?_; rintro v u' ⟨b, of, cs, hv, hc, hR, hu'⟩; subst hu'
        exact ⟨⟨b, of, cs, hv, hc, hR⟩, Ext.refl _⟩
      refine RW_d _ rfl (fun v => by dsimp only [List.set]; try rfl) (fun u hu hF => ?_) (fun v26 => ?_)
      · have h19_ : PtrR RV3 u v25 el1 := hF.1
        clear hF
        refine doesG_un rfl ?_
        obtain ⟨b19_, o19_, _, rfl, hc19_, ⟨r19_1, r19_3, r19_5, rfl, h19_2, h19_4, h19_6⟩⟩ := h19_
        refine (does_loadAgg (cs := [(Fl r19_1), (Fl r19_3), (Fl r19_5)]) (ev rfl) Try.isAgg57 Try.sizeOf57 hc19_ rfl).mono ?_; rintro _ _ ⟨rfl, rfl⟩
        exact ⟨⟨[(Fl r19_1), (Fl r19_3), (Fl r19_5)], rfl, ⟨r19_1, r19_3, r19_5, rfl, (by first | assumption | rfl), (by first | assumption | rfl), (by first | assumption | rfl)⟩⟩, Ext.refl _⟩
      refine RW_d _ rfl (fun v => by dsimp only [List.set]; try rfl) (fun u hu hF => ?_) (fun v27 => ?_)
      · clear hF
        refine doesG_un rfl ?_
        refine (does_move (u := (.slice p_b L_b.length q_b)) (ev rfl)).mono ?_; rintro _ _ ⟨rfl, rfl⟩
        exact ⟨rfl, Ext.refl _⟩
      refine RW_d _ rfl (fun v => by dsimp only [List.set]; try rfl) (fun u hu hF => ?_) (fun v28 => ?_)
      · clear hF
        refine doesG_un rfl ?_
        refine (does_move (u := (Iv (k : Int))) (ev rfl)).mono ?_; rintro _ _ ⟨rfl, rfl⟩
        exact ⟨rfl, Ext.refl _⟩
      refine RW_d _ rfl (fun v => by dsimp only [List.set]; try rfl) (fun u hu hF => ?_) (fun v29 => ?_)
      · have h21_ : v27 = (.slice p_b L_b.length q_b) := hF.1
        have h22_ : v28 = (Iv (k : Int)) := hF.2.1
        clear hF
        refine doesG_un rfl ?_
        obtain rfl := h21_
        obtain rfl := h22_
        refine (does_indexSl (R := RV3) (i := (k : Int)) (xs := L_b) (e := el2) Try.underlying30 Try.sizeOf57 (ev rfl) (ev rfl) (Sl.ext (Sl.ext hv_b RV3.mono (Ext.gr X13 E20)) RV3.mono hu) (by omega) hel2).mono ?_; rintro v u' ⟨b, of, cs, hv, hc, hR, hu'⟩; subst hu'
        exact ⟨⟨b, of, cs, hv, hc, hR⟩, Ext.refl _⟩
      refine RW_d _ rfl (fun v => by dsimp only [List.set]; try rfl) (fun u hu hF => ?_) (fun v30 => ?_)
      · have h23_ : PtrR RV3 u v29 el2 := hF.1
        clear hF
        refine doesG_un rfl ?_
        obtain ⟨b23_, o23_, _, rfl, hc23_, ⟨r23_1, r23_3, r23_5, rfl, h23_2, h23_4, h23_6⟩⟩ := h23_
        refine (does_loadAgg (cs := [(Fl r23_1), (Fl r23_3), (Fl r23_5)]) (ev rfl) Try.isAgg57 Try.sizeOf57 hc23_ rfl).mono ?_; rintro _ _ ⟨rfl, rfl⟩
        exact ⟨⟨[(Fl r23_1), (Fl r23_3), (Fl r23_5)], rfl, ⟨r23_1, r23_3, r23_5, rfl, (by first | assumption | rfl), (by first | assumption | rfl), (by first | assumption | rfl)⟩⟩, Ext.refl _⟩
      refine RW_d _ rfl (fun v => by dsimp only [List.set]; try rfl) (fun u hu hF => ?_) (fun v31 => ?_)
      · have h20_ : ∃ cs_1 : List Value, v26 = (.agg cs_1.toArray) ∧ RV3 w el1 cs_1 := hF.1
        have h24_ : ∃ cs_1 : List Value, v30 = (.agg cs_1.toArray) ∧ RV3 w el2 cs_1 := hF.2.1
        clear hF
        refine doesG_un rfl ?_
        obtain ⟨_, rfl, ⟨r20_1, r20_3, r20_5, rfl, h20_2, h20_4, h20_6⟩⟩ := h20_
        obtain ⟨_, rfl, ⟨r24_1, r24_3, r24_5, rfl, h24_2, h24_4, h24_6⟩⟩ := h24_
        refine (does_call (args := #[(.agg #[(Fl r20_1), (Fl r20_3), (Fl r20_5)]), (.agg #[(Fl r24_1), (Fl r24_3), (Fl r24_5)])]) cal52 (evs rfl) (c_laws_eqVector [(Fl r20_1), (Fl r20_3), (Fl r20_5)] el1 [(Fl r24_1), (Fl r24_3), (Fl r24_5)] el2 _ ⟨r20_1, r20_3, r20_5, rfl, (by assumption), (by assumption), (by assumption)⟩ ⟨r24_1, r24_3, r24_5, rfl, (by assumption), (by assumption), (by assumption)⟩)).mono ?_; rintro v u' ⟨hx, hv⟩
        exact ⟨hv.trans (by simp only [h20_2, h20_4, h20_6, h24_2, h24_4, h24_6]), hx⟩
      refine RW_d _ rfl (fun v => by dsimp only [List.set]; try rfl) (fun u hu hF => ?_) (fun v32 => ?_)
      · have h25_ : v31 = (Bo (sameV el1 el2)) := hF.1
        clear hF
        refine doesG_un rfl ?_
        obtain rfl := h25_
        refine (does_not (ev rfl)).mono ?_; rintro _ _ ⟨rfl, rfl⟩
        exact ⟨rfl, Ext.refl _⟩
      refine RW_fin ?_; intro w33 E34 hP35
      obtain ⟨⟨⟨⟨⟨⟨⟨⟨⟨⟨-, -⟩, -⟩, -⟩, -⟩, -⟩, -⟩, -⟩, -⟩, -⟩, q36⟩ := hP35
      have X37 := Ext.gr X22 E34
      have q36 : v32 = (Bo (!(sameV el1 el2))) := q36
      obtain rfl := q36
      show wpList _ _ _ _ (fr [_, _, _, _, _, _, _, _, _, _, _, _, _, _, _, _, _, _, _, _, _, _, _, _, _, _, _]) _
      refine wpList_nil (hK18 _ _ ?_)
      refine wp_cond_split (t := !(sameV el1 el2)) (ev rfl) (fun c38 => ?_) (fun c38 => ?_)
      · rw [Bool.not_eq_true'] at c38
        have c38' := c38
        refine wp_seq_k fun K39 hK39 => ?_
        refine wp_region_lit ?_
        refine q_is rfl rfl (does_assign (u := (Bo false)) (ev rfl)) (by dsimp only [List.set]; try rfl) ?_
        refine wpList_nil (hK39 _ _ ?_)
        refine wp_ret ?_
        dsimp only [Exit.then, Exit.inBlock]
        refine ret_val (v := (Bo false)) (res_T rfl (slot rfl)) X37 ?_
        try simp only [hel1, hel2] at c4 c16 c38
        have x40 : (sameX sameV L_a L_b) = false := by first | exact (sameX_len (by omega)) | exact (sameX_not (by omega) (by assumption) (by assumption) (by simp_all)) | exact (sameX_all (by omega) (by omega) hs)
        exact (by first | with_reducible rfl | rw [x40] | rfl)
      rw [Bool.not_eq_false'] at c38
      have c38' := c38
      refine wp_skip (hK17 _ _ ?_)
      refine wp_region_lit ?_
      refine q_is rfl rfl (does_move (u := (Iv (k : Int))) (ev rfl)) (by dsimp only [List.set]; try rfl) ?_
      refine q_is rfl rfl (does_iarith (p := (k : Int)) (q := 1) (r := (k : Int) + 1) (ev rfl) (ev rfl) (.inl ⟨rfl, (in_i64 (by omega) (by omega)).symm⟩)) (by dsimp only [List.set]; try rfl) ?_
      refine q_is rfl rfl (does_assign (u := (Iv ((k : Int) + 1))) (ev rfl)) (by dsimp only [List.set]; try rfl) ?_
      refine wpList_nil ?_
      refine ⟨k + 1, ⟨fun t => (([(.slice p_a L_a.length q_a), (.slice p_b L_b.length q_b), Ud, Ud, (u9 4), (Iv ((k : Int) + 1)), (.slice p_a L_a.length q_a), (Iv (L_a.length : Int)), (.slice p_b L_b.length q_b), (Iv (L_b.length : Int)), (Bo (icmp .neq (L_a.length : Int) (L_b.length : Int))), (Iv (k : Int)), (.slice p_a L_a.length q_a), (Iv (L_a.length : Int)), (Bo (icmp .lss (k : Int) (L_a.length : Int))), (Iv (k : Int)), (Iv ((k : Int) + 1)), v23, v24, v25, v26, v27, v28, v29, v30, v31, (Bo (!(sameV el1 el2)))] : List Value)[t]?).getD undef, ?_, (Ext.gr (Ext.gr E11 E20) E34), ?_⟩, ?_⟩
      · first | rfl | (simp only [Int.natCast_add, Int.natCast_one]; rfl)
      · exact ⟨by omega, SameXTo.step hs (by assumption) (by assumption) (by simp_all)⟩
      · omega
    have c16' := c16
    (try simp only [icmp, Bool.and_eq_true, Bool.or_eq_true, Bool.and_eq_false_iff, Bool.or_eq_false_iff, Bool.not_eq_true', Bool.not_eq_false', decide_eq_true_eq, decide_eq_false_iff_not, beq_iff_eq, bne_iff_ne, beq_eq_false_iff_ne, bne_eq_false_iff_eq] at c16')
    refine wp_exit ?_
    refine hK7 _ _ ?_
    refine wp_seq_k fun K41 hK41 => ?_
    refine wp_region_lit ?_
    refine q_is rfl rfl (does_assign (u := (Bo true)) (ev rfl)) (by dsimp only [List.set]; try rfl) ?_
    refine wpList_nil (hK41 _ _ ?_)
    refine wp_ret ?_
    refine ret_val (v := (Bo true)) (res_T rfl (slot rfl)) X13 ?_
    have x42 : (sameX sameV L_a L_b) = true := by first | exact (sameX_len (by omega)) | exact (sameX_not (by omega) (by assumption) (by assumption) (by simp_all)) | exact (sameX_all (by omega) (by omega) hs)
    exact (by first | with_reducible rfl | rw [x42] | rfl)

/- laws.eqInt64S -/
theorem c_laws_eqInt64S (a : Value) (L_a : List Int) (b : Value) (L_b : List Int) (w : World) (hv_a : Sl RI 1 w a L_a) (hv_b : Sl RI 1 w b L_b) : Gives Try.prog 11 #[a, b] w (fun v w' => v = (Bo (sameX eqI L_a L_b))) := by
  have hlen_a := Sl.len hv_a; obtain ⟨p_a, q_a, rfl⟩ := Sl.shape hv_a
  have hlen_b := Sl.len hv_b; obtain ⟨p_b, q_b, rfl⟩ := Sl.shape hv_b
  refine enter [(.slice p_a L_a.length q_a), (.slice p_b L_b.length q_b), Ud, Ud, Ud, Ud, Ud, Ud, Ud, Ud, Ud, Ud, Ud, Ud, Ud, Ud, Ud, Ud, Ud, Ud, Ud, Ud, Ud, Ud, Ud, Ud] Try.func11 rfl Try.ntmps11 rfl ?_
  refine wp_seq_k fun K1 hK1 => ?_
  refine wp_region_lit ?_
  refine q_is rfl rfl (does_assign (u := (Bo false)) (ev rfl)) (by dsimp only [List.set]; try rfl) ?_
  refine wpList_nil (hK1 _ _ ?_)
  refine wp_seq_k fun K2 hK2 => ?_
  refine wp_seq_k fun K3 hK3 => ?_
  refine wp_region_lit ?_
  refine q_is rfl rfl (does_move (u := (.slice p_a L_a.length q_a)) (ev rfl)) (by dsimp only [List.set]; try rfl) ?_
  refine q_is rfl rfl (does_len_slice Try.underlying27 (ev rfl)) (by dsimp only [List.set]; try rfl) ?_
  refine q_is rfl rfl (does_move (u := (.slice p_b L_b.length q_b)) (ev rfl)) (by dsimp only [List.set]; try rfl) ?_
  refine q_is rfl rfl (does_len_slice Try.underlying27 (ev rfl)) (by dsimp only [List.set]; try rfl) ?_
  refine q_is rfl rfl (does_icmp (p := (L_a.length : Int)) (q := (L_b.length : Int)) (.inr (.inl rfl)) (ev rfl) (ev rfl)) (by dsimp only [List.set]; try rfl) ?_
  refine wpList_nil (hK3 _ _ ?_)
  refine wp_cond_split (t := icmp .neq (L_a.length : Int) (L_b.length : Int)) (ev rfl) (fun c4 => ?_) (fun c4 => ?_)
  · have c4' := c4
    (try simp only [icmp, Bool.and_eq_true, Bool.or_eq_true, Bool.and_eq_false_iff, Bool.or_eq_false_iff, Bool.not_eq_true', Bool.not_eq_false', decide_eq_true_eq, decide_eq_false_iff_not, beq_iff_eq, bne_iff_ne, beq_eq_false_iff_ne, bne_eq_false_iff_eq] at c4')
    refine wp_seq_k fun K5 hK5 => ?_
    refine wp_region_lit ?_
    refine q_is rfl rfl (does_assign (u := (Bo false)) (ev rfl)) (by dsimp only [List.set]; try rfl) ?_
    refine wpList_nil (hK5 _ _ ?_)
    refine wp_ret ?_
    dsimp only [Exit.then, Exit.inBlock]
    refine ret_val (v := (Bo false)) (res_T rfl (slot rfl)) (Ext.refl w) ?_
    have x6 : (sameX eqI L_a L_b) = false := by first | exact (sameX_len (by omega)) | exact (sameX_not (by omega) (by assumption) (by assumption) (by simp only [eqI, icmp] at *; simp_all)) | exact (sameX_all (by omega) (by omega) hs)
    exact (by first | with_reducible rfl | rw [x6] | rfl)
  have c4' := c4
  (try simp only [icmp, Bool.and_eq_true, Bool.or_eq_true, Bool.and_eq_false_iff, Bool.or_eq_false_iff, Bool.not_eq_true', Bool.not_eq_false', decide_eq_true_eq, decide_eq_false_iff_not, beq_iff_eq, bne_iff_ne, beq_eq_false_iff_ne, bne_eq_false_iff_eq] at c4')
  refine wp_skip (hK2 _ _ ?_)
  refine wp_seq_k fun K7 hK7 => ?_
  refine wp_seq_k fun K8 hK8 => ?_
  refine wp_region_lit ?_
  refine q_is rfl rfl (does_assign (u := (Iv 0)) (ev rfl)) (by dsimp only [List.set]; try rfl) ?_
  refine wpList_nil (hK8 _ _ ?_)
  refine wp_block ?_
  refine loop_ghost (σ := Nat) (fun k a w' => ∃ u9 : Nat → Value, a = fr [(.slice p_a L_a.length q_a), (.slice p_b L_b.length q_b), Ud, Ud, (u9 4), (Iv (k : Int)), (.slice p_a L_a.length q_a), (Iv (L_a.length : Int)), (.slice p_b L_b.length q_b), (Iv (L_b.length : Int)), (Bo (icmp .neq (L_a.length : Int) (L_b.length : Int))), (u9 11), (u9 12), (u9 13), (u9 14), (u9 15), (u9 16), (u9 17), (u9 18), (u9 19), (u9 20), (u9 21), (u9 22), (u9 23), (u9 24), (u9 25)] ∧ Ext w w' ∧ (k ≤ L_a.length ∧ SameXTo eqI L_a L_b k)) (fun k => L_a.length - k) 0 ?_ ?_
  · refine ⟨fun t => (([(.slice p_a L_a.length q_a), (.slice p_b L_b.length q_b), Ud, Ud, (Bo false), (Iv 0), (.slice p_a L_a.length q_a), (Iv (L_a.length : Int)), (.slice p_b L_b.length q_b), (Iv (L_b.length : Int)), (Bo (icmp .neq (L_a.length : Int) (L_b.length : Int))), Ud, Ud, Ud, Ud, Ud, Ud, Ud, Ud, Ud, Ud, Ud, Ud, Ud, Ud, Ud] : List Value)[t]?).getD undef, rfl, Ext.refl _, ?_⟩
    exact ⟨Nat.zero_le _, SameXTo.zero⟩
  · rintro k a w10 ⟨u9, rfl, E11, ⟨hk, hs⟩⟩
    have X13 := Ext.gr (Ext.refl w) E11
    refine wp_seq_k fun K14 hK14 => ?_
    refine wp_seq_k fun K15 hK15 => ?_
    refine wp_region_lit ?_
    refine q_is rfl rfl (does_move (u := (Iv (k : Int))) (ev rfl)) (by dsimp only [List.set]; try rfl) ?_
    refine q_is rfl rfl (does_move (u := (.slice p_a L_a.length q_a)) (ev rfl)) (by dsimp only [List.set]; try rfl) ?_
    refine q_is rfl rfl (does_len_slice Try.underlying27 (ev rfl)) (by dsimp only [List.set]; try rfl) ?_
    refine q_is rfl rfl (does_icmp (p := (k : Int)) (q := (L_a.length : Int)) (.inr (.inr (.inl rfl))) (ev rfl) (ev rfl)) (by dsimp only [List.set]; try rfl) ?_
    refine wpList_nil (hK15 _ _ ?_)
    refine wp_cond_split (t := icmp .lss (k : Int) (L_a.length : Int)) (ev rfl) (fun c16 => ?_) (fun c16 => ?_)
    · have c16' := c16
      (try simp only [icmp, Bool.and_eq_true, Bool.or_eq_true, Bool.and_eq_false_iff, Bool.or_eq_false_iff, Bool.not_eq_true', Bool.not_eq_false', decide_eq_true_eq, decide_eq_false_iff_not, beq_iff_eq, bne_iff_ne, beq_eq_false_iff_ne, bne_eq_false_iff_eq] at c16')
      refine wp_skip (hK14 _ _ ?_)
      refine wp_seq_k fun K17 hK17 => ?_
      refine wp_block ?_
      refine wp_seq_k fun K18 hK18 => ?_
      obtain ⟨el1, hel1⟩ : ∃ e, L_a[k]? = some e := ⟨_, List.getElem?_eq_getElem (by omega)⟩
      obtain ⟨el2, hel2⟩ : ∃ e, L_b[k]? = some e := ⟨_, List.getElem?_eq_getElem (by omega)⟩
      refine region_draw (
        [Fact.pure [] (fun v => v = (.slice p_a L_a.length q_a)),
    Fact.pure [] (fun v => v = (Iv (k : Int))),
    Fact.mem [17, 18] (fun v w' => PtrR RI w' v el1) (by intro v w1 w2 hx h; exact h.ext RI.mono hx),
    Fact.pure [19] (fun v => v = (Iv el1)),
    Fact.pure [] (fun v => v = (.slice p_b L_b.length q_b)),
    Fact.pure [] (fun v => v = (Iv (k : Int))),
    Fact.mem [21, 22] (fun v w' => PtrR RI w' v el2) (by intro v w1 w2 hx h; exact h.ext RI.mono hx),
    Fact.pure [23] (fun v => v = (Iv el2)),
    Fact.pure [20, 24] (fun v => v = (Bo (icmp .neq el1 el2)))]) mixed (by kernel_rfl) (by intro _ _ d _ _ h; cases d <;> exact h) ?_
      obtain ⟨w19, hw21⟩ : ∃ w', w' = World.drew w10 := ⟨_, rfl⟩; rw [← hw21]; have E20 : Ext w10 w19 := by rw [hw21]; exact Ext.draw _
      clear hw21
      have X22 := Ext.gr X13 E20
      refine RW_d _ rfl (fun v => by dsimp only [List.set]; try rfl) (fun u hu hF => ?_) (fun v23 => ?_)
      · clear hF
        refine doesG_un rfl ?_
        refine (does_move (u := (.slice p_a L_a.length q_a)) (ev rfl)).mono ?_; rintro _ _ ⟨rfl, rfl⟩
        exact ⟨rfl, Ext.refl _⟩
      refine RW_d _ rfl (fun v => by dsimp only [List.set]; try rfl) (fun u hu hF => ?_) (fun v24 => ?_)
      · clear hF
        refine doesG_un rfl ?_
        refine (does_move (u := (Iv (k : Int))) (ev rfl)).mono ?_; rintro _ _ ⟨rfl, rfl⟩
        exact ⟨rfl, Ext.refl _⟩
      refine RW_d _ rfl (fun v => by dsimp only [List.set]; try rfl) (fun u hu hF => ?_) (fun v25 => ?_)
      · have h17_ : v23 = (.slice p_a L_a.length q_a) := hF.1
        have h18_ : v24 = (Iv (k : Int)) := hF.2.1
        clear hF
        refine doesG_un rfl ?_
        obtain rfl := h17_
        obtain rfl := h18_
        refine (does_indexSl (R := RI) (i := (k : Int)) (xs := L_a) (e := el1) Try.underlying27 Try.sizeOf2 (ev rfl) (ev rfl) (Sl.ext (Sl.ext hv_a RI.mono (Ext.gr X13 E20)) RI.mono hu) (by omega) hel1).mono ?_; rintro v u' ⟨b, of, cs, hv, hc, hR, hu'⟩; subst hu'
        exact ⟨⟨b, of, cs, hv, hc, hR⟩, Ext.refl _⟩
      refine RW_d _ rfl (fun v => by dsimp only [List.set]; try rfl) (fun u hu hF => ?_) (fun v26 => ?_)
      · have h19_ : PtrR RI u v25 el1 := hF.1
        clear hF
        refine doesG_un rfl ?_
        obtain ⟨b19_, o19_, _, rfl, hc19_, rfl⟩ := h19_
        refine (does_load (u := (Iv el1)) (ev rfl) Try.isAgg2 (Cells.at hc19_ 0 rfl)).mono ?_; rintro _ _ ⟨rfl, rfl⟩
        exact ⟨rfl, Ext.refl _⟩
      refine RW_d _ rfl (fun v => by dsimp only [List.set]; try rfl) (fun u hu hF => ?_) (fun v27 => ?_)
      · clear hF
        refine doesG_un rfl ?_
        refine (does_move (u := (.slice p_b L_b.length q_b)) (ev rfl)).mono ?_; rintro _ _ ⟨rfl, rfl⟩
        exact ⟨rfl, Ext.refl _⟩
      refine RW_d _ rfl (fun v => by dsimp only [List.set]; try rfl) (fun u hu hF => ?_) (fun v28 => ?_)
      · clear hF
        refine doesG_un rfl ?_
        refine (does_move (u := (Iv (k : Int))) (ev rfl)).mono ?_; rintro _ _ ⟨rfl, rfl⟩
        exact ⟨rfl, Ext.refl _⟩
      refine RW_d _ rfl (fun v => by dsimp only [List.set]; try rfl) (fun u hu hF => ?_) (fun v29 => ?_)
      · have h21_ : v27 = (.slice p_b L_b.length q_b) := hF.1
        have h22_ : v28 = (Iv (k : Int)) := hF.2.1
        clear hF
        refine doesG_un rfl ?_
        obtain rfl := h21_
        obtain rfl := h22_
        refine (does_indexSl (R := RI) (i := (k : Int)) (xs := L_b) (e := el2) Try.underlying27 Try.sizeOf2 (ev rfl) (ev rfl) (Sl.ext (Sl.ext hv_b RI.mono (Ext.gr X13 E20)) RI.mono hu) (by omega) hel2).mono ?_; rintro v u' ⟨b, of, cs, hv, hc, hR, hu'⟩; subst hu'
        exact ⟨⟨b, of, cs, hv, hc, hR⟩, Ext.refl _⟩
      refine RW_d _ rfl (fun v => by dsimp only [List.set]; try rfl) (fun u hu hF => ?_) (fun v30 => ?_)
      · have h23_ : PtrR RI u v29 el2 := hF.1
        clear hF
        refine doesG_un rfl ?_
        obtain ⟨b23_, o23_, _, rfl, hc23_, rfl⟩ := h23_
        refine (does_load (u := (Iv el2)) (ev rfl) Try.isAgg2 (Cells.at hc23_ 0 rfl)).mono ?_; rintro _ _ ⟨rfl, rfl⟩
        exact ⟨rfl, Ext.refl _⟩
      refine RW_d _ rfl (fun v => by dsimp only [List.set]; try rfl) (fun u hu hF => ?_) (fun v31 => ?_)
      · have h20_ : v26 = (Iv el1) := hF.1
        have h24_ : v30 = (Iv el2) := hF.2.1
        clear hF
        refine doesG_un rfl ?_
        obtain rfl := h20_
        obtain rfl := h24_
        refine (does_icmp (p := el1) (q := el2) (.inr (.inl rfl)) (ev rfl) (ev rfl)).mono ?_; rintro _ _ ⟨rfl, rfl⟩
        exact ⟨rfl, Ext.refl _⟩
      refine RW_fin ?_; intro w32 E33 hP34
      obtain ⟨⟨⟨⟨⟨⟨⟨⟨⟨-, -⟩, -⟩, -⟩, -⟩, -⟩, -⟩, -⟩, -⟩, q35⟩ := hP34
      have X36 := Ext.gr X22 E33
      have q35 : v31 = (Bo (icmp .neq el1 el2)) := q35
      obtain rfl := q35
      show wpList _ _ _ _ (fr [_, _, _, _, _, _, _, _, _, _, _, _, _, _, _, _, _, _, _, _, _, _, _, _, _, _]) _
      refine wpList_nil (hK18 _ _ ?_)
      refine wp_cond_split (t := icmp .neq el1 el2) (ev rfl) (fun c37 => ?_) (fun c37 => ?_)
      · have c37' := c37
        (try simp only [icmp, Bool.and_eq_true, Bool.or_eq_true, Bool.and_eq_false_iff, Bool.or_eq_false_iff, Bool.not_eq_true', Bool.not_eq_false', decide_eq_true_eq, decide_eq_false_iff_not, beq_iff_eq, bne_iff_ne, beq_eq_false_iff_ne, bne_eq_false_iff_eq] at c37')
        refine wp_seq_k fun K38 hK38 => ?_
        refine wp_region_lit ?_
        refine q_is rfl rfl (does_assign (u := (Bo false)) (ev rfl)) (by dsimp only [List.set]; try rfl) ?_
        refine wpList_nil (hK38 _ _ ?_)
        refine wp_ret ?_
        dsimp only [Exit.then, Exit.inBlock]
        refine ret_val (v := (Bo false)) (res_T rfl (slot rfl)) X36 ?_
        try simp only [hel1, hel2] at c4 c16 c37
        have x39 : (sameX eqI L_a L_b) = false := by first | exact (sameX_len (by omega)) | exact (sameX_not (by omega) (by assumption) (by assumption) (by simp only [eqI, icmp] at *; simp_all)) | exact (sameX_all (by omega) (by omega) hs)
        exact (by first | with_reducible rfl | rw [x39] | rfl)
      have c37' := c37
      (try simp only [icmp, Bool.and_eq_true, Bool.or_eq_true, Bool.and_eq_false_iff, Bool.or_eq_false_iff, Bool.not_eq_true', Bool.not_eq_false', decide_eq_true_eq, decide_eq_false_iff_not, beq_iff_eq, bne_iff_ne, beq_eq_false_iff_ne, bne_eq_false_iff_eq] at c37')
      refine wp_skip (hK17 _ _ ?_)
      refine wp_region_lit ?_
      refine q_is rfl rfl (does_move (u := (Iv (k : Int))) (ev rfl)) (by dsimp only [List.set]; try rfl) ?_
      refine q_is rfl rfl (does_iarith (p := (k : Int)) (q := 1) (r := (k : Int) + 1) (ev rfl) (ev rfl) (.inl ⟨rfl, (in_i64 (by omega) (by omega)).symm⟩)) (by dsimp only [List.set]; try rfl) ?_
      refine q_is rfl rfl (does_assign (u := (Iv ((k : Int) + 1))) (ev rfl)) (by dsimp only [List.set]; try rfl) ?_
      refine wpList_nil ?_
      refine ⟨k + 1, ⟨fun t => (([(.slice p_a L_a.length q_a), (.slice p_b L_b.length q_b), Ud, Ud, (u9 4), (Iv ((k : Int) + 1)), (.slice p_a L_a.length q_a), (Iv (L_a.length : Int)), (.slice p_b L_b.length q_b), (Iv (L_b.length : Int)), (Bo (icmp .neq (L_a.length : Int) (L_b.length : Int))), (Iv (k : Int)), (.slice p_a L_a.length q_a), (Iv (L_a.length : Int)), (Bo (icmp .lss (k : Int) (L_a.length : Int))), (Iv (k : Int)), (Iv ((k : Int) + 1)), v23, v24, v25, v26, v27, v28, v29, v30, (Bo (icmp .neq el1 el2))] : List Value)[t]?).getD undef, ?_, (Ext.gr (Ext.gr E11 E20) E33), ?_⟩, ?_⟩
      · first | rfl | (simp only [Int.natCast_add, Int.natCast_one]; rfl)
      · exact ⟨by omega, SameXTo.step hs (by assumption) (by assumption) (by simp only [eqI, icmp] at *; simp_all)⟩
      · omega
    have c16' := c16
    (try simp only [icmp, Bool.and_eq_true, Bool.or_eq_true, Bool.and_eq_false_iff, Bool.or_eq_false_iff, Bool.not_eq_true', Bool.not_eq_false', decide_eq_true_eq, decide_eq_false_iff_not, beq_iff_eq, bne_iff_ne, beq_eq_false_iff_ne, bne_eq_false_iff_eq] at c16')
    refine wp_exit ?_
    refine hK7 _ _ ?_
    refine wp_seq_k fun K40 hK40 => ?_
    refine wp_region_lit ?_
    refine q_is rfl rfl (does_assign (u := (Bo true)) (ev rfl)) (by dsimp only [List.set]; try rfl) ?_
    refine wpList_nil (hK40 _ _ ?_)
    refine wp_ret ?_
    refine ret_val (v := (Bo true)) (res_T rfl (slot rfl)) X13 ?_
    have x41 : (sameX eqI L_a L_b) = true := by first | exact (sameX_len (by omega)) | exact (sameX_not (by omega) (by assumption) (by assumption) (by simp only [eqI, icmp] at *; simp_all)) | exact (sameX_all (by omega) (by omega) hs)
    exact (by first | with_reducible rfl | rw [x41] | rfl)

/- laws.eqInt64SS -/
theorem c_laws_eqInt64SS (a : Value) (L_a : List (List Int)) (b : Value) (L_b : List (List Int)) (w : World) (hv_a : Sl (RS RI 1) 1 w a L_a) (hv_b : Sl (RS RI 1) 1 w b L_b) : Gives Try.prog 32 #[a, b] w (fun v w' => v = (Bo (sameX eqIs L_a L_b))) := by
  have hlen_a := Sl.len hv_a; obtain ⟨p_a, q_a, rfl⟩ := Sl.shape hv_a
  have hlen_b := Sl.len hv_b; obtain ⟨p_b, q_b, rfl⟩ := Sl.shape hv_b
  refine enter [(.slice p_a L_a.length q_a), (.slice p_b L_b.length q_b), Ud, Ud, Ud, Ud, Ud, Ud, Ud, Ud, Ud, Ud, Ud, Ud, Ud, Ud, Ud, Ud, Ud, Ud, Ud, Ud, Ud, Ud, Ud, Ud, Ud] Try.func32 rfl Try.ntmps32 rfl ?_
  refine wp_seq_k fun K1 hK1 => ?_
  refine wp_region_lit ?_
  refine q_is rfl rfl (does_assign (u := (Bo false)) (ev rfl)) (by dsimp only [List.set]; try rfl) ?_
  refine wpList_nil (hK1 _ _ ?_)
  refine wp_seq_k fun K2 hK2 => ?_
  refine wp_seq_k fun K3 hK3 => ?_
  refine wp_region_lit ?_
  refine q_is rfl rfl (does_move (u := (.slice p_a L_a.length q_a)) (ev rfl)) (by dsimp only [List.set]; try rfl) ?_
  refine q_is rfl rfl (does_len_slice Try.underlying23 (ev rfl)) (by dsimp only [List.set]; try rfl) ?_
  refine q_is rfl rfl (does_move (u := (.slice p_b L_b.length q_b)) (ev rfl)) (by dsimp only [List.set]; try rfl) ?_
  refine q_is rfl rfl (does_len_slice Try.underlying23 (ev rfl)) (by dsimp only [List.set]; try rfl) ?_
  refine q_is rfl rfl (does_icmp (p := (L_a.length : Int)) (q := (L_b.length : Int)) (.inr (.inl rfl)) (ev rfl) (ev rfl)) (by dsimp only [List.set]; try rfl) ?_
  refine wpList_nil (hK3 _ _ ?_)
  refine wp_cond_split (t := icmp .neq (L_a.length : Int) (L_b.length : Int)) (ev rfl) (fun c4 => ?_) (fun c4 => ?_)
  · have c4' := c4
    (try simp only [icmp, Bool.and_eq_true, Bool.or_eq_true, Bool.and_eq_false_iff, Bool.or_eq_false_iff, Bool.not_eq_true', Bool.not_eq_false', decide_eq_true_eq, decide_eq_false_iff_not, beq_iff_eq, bne_iff_ne, beq_eq_false_iff_ne, bne_eq_false_iff_eq] at c4')
    refine wp_seq_k fun K5 hK5 => ?_
    refine wp_region_lit ?_
    refine q_is rfl rfl (does_assign (u := (Bo false)) (ev rfl)) (by dsimp only [List.set]; try rfl) ?_
    refine wpList_nil (hK5 _ _ ?_)
    refine wp_ret ?_
    dsimp only [Exit.then, Exit.inBlock]
    refine ret_val (v := (Bo false)) (res_T rfl (slot rfl)) (Ext.refl w) ?_
    have x6 : (sameX eqIs L_a L_b) = false := by first | exact (sameX_len (by omega)) | exact (sameX_not (by omega) (by assumption) (by assumption) (by show sameX eqI _ _ = _; assumption)) | exact (sameX_all (by omega) (by omega) hs)
    exact (by first | with_reducible rfl | rw [x6] | rfl)
  have c4' := c4
  (try simp only [icmp, Bool.and_eq_true, Bool.or_eq_true, Bool.and_eq_false_iff, Bool.or_eq_false_iff, Bool.not_eq_true', Bool.not_eq_false', decide_eq_true_eq, decide_eq_false_iff_not, beq_iff_eq, bne_iff_ne, beq_eq_false_iff_ne, bne_eq_false_iff_eq] at c4')
  refine wp_skip (hK2 _ _ ?_)
  refine wp_seq_k fun K7 hK7 => ?_
  refine wp_seq_k fun K8 hK8 => ?_
  refine wp_region_lit ?_
  refine q_is rfl rfl (does_assign (u := (Iv 0)) (ev rfl)) (by dsimp only [List.set]; try rfl) ?_
  refine wpList_nil (hK8 _ _ ?_)
  refine wp_block ?_
  refine loop_ghost (σ := Nat) (fun k a w' => ∃ u9 : Nat → Value, a = fr [(.slice p_a L_a.length q_a), (.slice p_b L_b.length q_b), Ud, Ud, (u9 4), (Iv (k : Int)), (.slice p_a L_a.length q_a), (Iv (L_a.length : Int)), (.slice p_b L_b.length q_b), (Iv (L_b.length : Int)), (Bo (icmp .neq (L_a.length : Int) (L_b.length : Int))), (u9 11), (u9 12), (u9 13), (u9 14), (u9 15), (u9 16), (u9 17), (u9 18), (u9 19), (u9 20), (u9 21), (u9 22), (u9 23), (u9 24), (u9 25), (u9 26)] ∧ Ext w w' ∧ (k ≤ L_a.length ∧ SameXTo eqIs L_a L_b k)) (fun k => L_a.length - k) 0 ?_ ?_
  · refine ⟨fun t => (([(.slice p_a L_a.length q_a), (.slice p_b L_b.length q_b), Ud, Ud, (Bo false), (Iv 0), (.slice p_a L_a.length q_a), (Iv (L_a.length : Int)), (.slice p_b L_b.length q_b), (Iv (L_b.length : Int)), (Bo (icmp .neq (L_a.length : Int) (L_b.length : Int))), Ud, Ud, Ud, Ud, Ud, Ud, Ud, Ud, Ud, Ud, Ud, Ud, Ud, Ud, Ud, Ud] : List Value)[t]?).getD undef, rfl, Ext.refl _, ?_⟩
    exact ⟨Nat.zero_le _, SameXTo.zero⟩
  · rintro k a w10 ⟨u9, rfl, E11, ⟨hk, hs⟩⟩
    have X13 := Ext.gr (Ext.refl w) E11
    refine wp_seq_k fun K14 hK14 => ?_
    refine wp_seq_k fun K15 hK15 => ?_
    refine wp_region_lit ?_
    refine q_is rfl rfl (does_move (u := (Iv (k : Int))) (ev rfl)) (by dsimp only [List.set]; try rfl) ?_
    refine q_is rfl rfl (does_move (u := (.slice p_a L_a.length q_a)) (ev rfl)) (by dsimp only [List.set]; try rfl) ?_
    refine q_is rfl rfl (does_len_slice Try.underlying23 (ev rfl)) (by dsimp only [List.set]; try rfl) ?_
    refine q_is rfl rfl (does_icmp (p := (k : Int)) (q := (L_a.length : Int)) (.inr (.inr (.inl rfl))) (ev rfl) (ev rfl)) (by dsimp only [List.set]; try rfl) ?_
    refine wpList_nil (hK15 _ _ ?_)
    refine wp_cond_split (t := icmp .lss (k : Int) (L_a.length : Int)) (ev rfl) (fun c16 => ?_) (fun c16 => ?_)
    · have c16' := c16
      (try simp only [icmp, Bool.and_eq_true, Bool.or_eq_true, Bool.and_eq_false_iff, Bool.or_eq_false_iff, Bool.not_eq_true', Bool.not_eq_false', decide_eq_true_eq, decide_eq_false_iff_not, beq_iff_eq, bne_iff_ne, beq_eq_false_iff_ne, bne_eq_false_iff_eq] at c16')
      refine wp_skip (hK14 _ _ ?_)
      refine wp_seq_k fun K17 hK17 => ?_
      refine wp_block ?_
      refine wp_seq_k fun K18 hK18 => ?_
      obtain ⟨el1, hel1⟩ : ∃ e, L_a[k]? = some e := ⟨_, List.getElem?_eq_getElem (by omega)⟩
      obtain ⟨el2, hel2⟩ : ∃ e, L_b[k]? = some e := ⟨_, List.getElem?_eq_getElem (by omega)⟩
      refine region_draw (
        [Fact.pure [] (fun v => v = (.slice p_a L_a.length q_a)),
    Fact.pure [] (fun v => v = (Iv (k : Int))),
    Fact.mem [17, 18] (fun v w' => PtrR (RS RI 1) w' v el1) (by intro v w1 w2 hx h; exact h.ext (RS.mono RI.mono) hx),
    Fact.mem [19] (fun v w' => ∃ y_1 : Value, v = y_1 ∧ Sl RI 1 w' y_1 el1) (by rintro v w1 w2 hx ⟨z1, rfl, k0⟩; exact ⟨_, rfl, (k0.ext RI.mono hx)⟩),
    Fact.pure [] (fun v => v = (.slice p_b L_b.length q_b)),
    Fact.pure [] (fun v => v = (Iv (k : Int))),
    Fact.mem [21, 22] (fun v w' => PtrR (RS RI 1) w' v el2) (by intro v w1 w2 hx h; exact h.ext (RS.mono RI.mono) hx),
    Fact.mem [23] (fun v w' => ∃ y_1 : Value, v = y_1 ∧ Sl RI 1 w' y_1 el2) (by rintro v w1 w2 hx ⟨z1, rfl, k0⟩; exact ⟨_, rfl, (k0.ext RI.mono hx)⟩),
    Fact.pure [20, 24] (fun v => v = (Bo (sameX eqI el1 el2))),
    Fact.pure [25] (fun v => v = (Bo (!(sameX eqI el1 el2))))]) mixed (by kernel_rfl) (by intro _ _ d _ _ h; cases d <;> exact h) ?_
      obtain ⟨w19, hw21⟩ : ∃ w', w' = World.drew w10 := ⟨_, rfl⟩; rw [← hw21]; have E20 : Ext w10 w19 := by rw [hw21]; exact Ext.draw _
      clear hw21
      have X22 := Ext.gr X13 E20
      refine RW_d _ rfl (fun v => by dsimp only [List.set]; try rfl) (fun u hu hF => ?_) (fun v23 => ?_)
      · clear hF
        refine doesG_un rfl ?_
        refine (does_move (u := (.slice p_a L_a.length q_a)) (ev rfl)).mono ?_; rintro _ _ ⟨rfl, rfl⟩
        exact ⟨rfl, Ext.refl _⟩
      refine RW_d _ rfl (fun v => by dsimp only [List.set]; try rfl) (fun u hu hF => ?_) (fun v24 => ?_)
      · clear hF
        refine doesG_un rfl ?_
        refine (does_move (u := (Iv (k : Int))) (ev rfl)).mono ?_; rintro _ _ ⟨rfl, rfl⟩
        exact ⟨rfl, Ext.refl _⟩
      refine RW_d _ rfl (fun v => by dsimp only [List.set]; try rfl) (fun u hu hF => ?_) (fun v25 => ?_)
      · have h17_ : v23 = (.slice p_a L_a.length q_a) := hF.1
        have h18_ : v24 = (Iv (k : Int)) := hF.2.1
        clear hF
        refine doesG_un rfl ?_
        obtain rfl := h17_
        obtain rfl := h18_
        refine (does_indexSl (R := (RS RI 1)) (i := (k : Int)) (xs := L_a) (e := el1) Try.underlying23 Try.sizeOf27 (ev rfl) (ev rfl) (Sl.ext (Sl.ext hv_a (RS.mono RI.mono) (Ext.gr X13 E20)) (RS.mono RI.mono) hu) (by omega) hel1).mono ?_; rintro v u' ⟨b, of, cs, hv, hc, hR, hu'⟩; subst hu'
        exact ⟨⟨b, of, cs, hv, hc, hR⟩, Ext.refl _⟩
      refine RW_d _ rfl (fun v => by dsimp only [List.set]; try rfl) (fun u hu hF => ?_) (fun v26 => ?_)
      · have h19_ : PtrR (RS RI 1) u v25 el1 := hF.1
        clear hF
        refine doesG_un rfl ?_
        obtain ⟨b19_, o19_, _, rfl, hc19_, ⟨y19_1, rfl, h19_2⟩⟩ := h19_
        have hh19_2 := h19_2; obtain ⟨p19_3, q19_4, rfl⟩ := Sl.shape h19_2
        refine (does_load (u := (.slice p19_3 el1.length q19_4)) (ev rfl) Try.isAgg27 (Cells.at hc19_ 0 rfl)).mono ?_; rintro _ _ ⟨rfl, rfl⟩
        exact ⟨⟨(.slice p19_3 el1.length q19_4), rfl, (by assumption)⟩, Ext.refl _⟩
      refine RW_d _ rfl (fun v => by dsimp only [List.set]; try rfl) (fun u hu hF => ?_) (fun v27 => ?_)
      · clear hF
        refine doesG_un rfl ?_
        refine (does_move (u := (.slice p_b L_b.length q_b)) (ev rfl)).mono ?_; rintro _ _ ⟨rfl, rfl⟩
        exact ⟨rfl, Ext.refl _⟩
      refine RW_d _ rfl (fun v => by dsimp only [List.set]; try rfl) (fun u hu hF => ?_) (fun v28 => ?_)
      · clear hF
        refine doesG_un rfl ?_
        refine (does_move (u := (Iv (k : Int))) (ev rfl)).mono ?_; rintro _ _ ⟨rfl, rfl⟩
        exact ⟨rfl, Ext.refl _⟩
      refine RW_d _ rfl (fun v => by dsimp only [List.set]; try rfl) (fun u hu hF => ?_) (fun v29 => ?_)
      · have h21_ : v27 = (.slice p_b L_b.length q_b) := hF.1
        have h22_ : v28 = (Iv (k : Int)) := hF.2.1
        clear hF
        refine doesG_un rfl ?_
        obtain rfl := h21_
        obtain rfl := h22_
        refine (does_indexSl (R := (RS RI 1)) (i := (k : Int)) (xs := L_b) (e := el2) Try.underlying23 Try.sizeOf27 (ev rfl) (ev rfl) (Sl.ext (Sl.ext hv_b (RS.mono RI.mono) (Ext.gr X13 E20)) (RS.mono RI.mono) hu) (by omega) hel2).mono ?_; rintro v u' ⟨b, of, cs, hv, hc, hR, hu'⟩; subst hu'
        exact ⟨⟨b, of, cs, hv, hc, hR⟩, Ext.refl _⟩
      refine RW_d _ rfl (fun v => by dsimp only [List.set]; try rfl) (fun u hu hF => ?_) (fun v30 => ?_)
      · have h23_ : PtrR (RS RI 1) u v29 el2 := hF.1
        clear hF
        refine doesG_un rfl ?_
        obtain ⟨b23_, o23_, _, rfl, hc23_, ⟨y23_1, rfl, h23_2⟩⟩ := h23_
        have hh23_2 := h23_2; obtain ⟨p23_3, q23_4, rfl⟩ := Sl.shape h23_2
        refine (does_load (u := (.slice p23_3 el2.length q23_4)) (ev rfl) Try.isAgg27 (Cells.at hc23_ 0 rfl)).mono ?_; rintro _ _ ⟨rfl, rfl⟩
        exact ⟨⟨(.slice p23_3 el2.length q23_4), rfl, (by assumption)⟩, Ext.refl _⟩
      refine RW_d _ rfl (fun v => by dsimp only [List.set]; try rfl) (fun u hu hF => ?_) (fun v31 => ?_)
      · have h20_ : ∃ y_1 : Value, v26 = y_1 ∧ Sl RI 1 u y_1 el1 := hF.1
        have h24_ : ∃ y_1 : Value, v30 = y_1 ∧ Sl RI 1 u y_1 el2 := hF.2.1
        clear hF
        refine doesG_un rfl ?_
        obtain ⟨y20_1, rfl, h20_2⟩ := h20_
        have hh20_2 := h20_2; obtain ⟨p20_3, q20_4, rfl⟩ := Sl.shape h20_2
        obtain ⟨y24_1, rfl, h24_2⟩ := h24_
        have hh24_2 := h24_2; obtain ⟨p24_3, q24_4, rfl⟩ := Sl.shape h24_2
        refine (does_call (args := #[(.slice p20_3 el1.length q20_4), (.slice p24_3 el2.length q24_4)]) cal11 (evs rfl) (c_laws_eqInt64S (.slice p20_3 el1.length q20_4) el1 (.slice p24_3 el2.length q24_4) el2 _ hh20_2 hh24_2)).mono ?_; rintro v u' ⟨hx, hv⟩
        exact ⟨hv, hx⟩
      refine RW_d _ rfl (fun v => by dsimp only [List.set]; try rfl) (fun u hu hF => ?_) (fun v32 => ?_)
      · have h25_ : v31 = (Bo (sameX eqI el1 el2)) := hF.1
        clear hF
        refine doesG_un rfl ?_
        obtain rfl := h25_
        refine (does_not (ev rfl)).mono ?_; rintro _ _ ⟨rfl, rfl⟩
        exact ⟨rfl, Ext.refl _⟩
      refine RW_fin ?_; intro w33 E34 hP35
      obtain ⟨⟨⟨⟨⟨⟨⟨⟨⟨⟨-, -⟩, -⟩, -⟩, -⟩, -⟩, -⟩, -⟩, -⟩, -⟩, q36⟩ := hP35
      have X37 := Ext.gr X22 E34
      have q36 : v32 = (Bo (!(sameX eqI el1 el2))) := q36
      obtain rfl := q36
      show wpList _ _ _ _ (fr [_, _, _, _, _, _, _, _, _, _, _, _, _, _, _, _, _, _, _, _, _, _, _, _, _, _, _]) _
      refine wpList_nil (hK18 _ _ ?_)
      refine wp_cond_split (t := !(sameX eqI el1 el2)) (ev rfl) (fun c38 => ?_) (fun c38 => ?_)
      · rw [Bool.not_eq_true'] at c38
        have c38' := c38
        refine wp_seq_k fun K39 hK39 => ?_
        refine wp_region_lit ?_
        refine q_is rfl rfl (does_assign (u := (Bo false)) (ev rfl)) (by dsimp only [List.set]; try rfl) ?_
        refine wpList_nil (hK39 _ _ ?_)
        refine wp_ret ?_
        dsimp only [Exit.then, Exit.inBlock]
        refine ret_val (v := (Bo false)) (res_T rfl (slot rfl)) X37 ?_
        try simp only [hel1, hel2] at c4 c16 c38
        have x40 : (sameX eqIs L_a L_b) = false := by first | exact (sameX_len (by omega)) | exact (sameX_not (by omega) (by assumption) (by assumption) (by show sameX eqI _ _ = _; assumption)) | exact (sameX_all (by omega) (by omega) hs)
        exact (by first | with_reducible rfl | rw [x40] | rfl)
      rw [Bool.not_eq_false'] at c38
      have c38' := c38
      refine wp_skip (hK17 _ _ ?_)
      refine wp_region_lit ?_
      refine q_is rfl rfl (does_move (u := (Iv (k : Int))) (ev rfl)) (by dsimp only [List.set]; try rfl) ?_
      refine q_is rfl rfl (does_iarith (p := (k : Int)) (q := 1) (r := (k : Int) + 1) (ev rfl) (ev rfl) (.inl ⟨rfl, (in_i64 (by omega) (by omega)).symm⟩)) (by dsimp only [List.set]; try rfl) ?_
      refine q_is rfl rfl (does_assign (u := (Iv ((k : Int) + 1))) (ev rfl)) (by dsimp only [List.set]; try rfl) ?_
      refine wpList_nil ?_
      refine ⟨k + 1, ⟨fun t => (([(.slice p_a L_a.length q_a), (.slice p_b L_b.length q_b), Ud, Ud, (u9 4), (Iv ((k : Int) + 1)), (.slice p_a L_a.length q_a), (Iv (L_a.length : Int)), (.slice p_b L_b.length q_b), (Iv (L_b.length : Int)), (Bo (icmp .neq (L_a.length : Int) (L_b.length : Int))), (Iv (k : Int)), (.slice p_a L_a.length q_a), (Iv (L_a.length : Int)), (Bo (icmp .lss (k : Int) (L_a.length : Int))), (Iv (k : Int)), (Iv ((k : Int) + 1)), v23, v24, v25, v26, v27, v28, v29, v30, v31, (Bo (!(sameX eqI el1 el2)))] : List Value)[t]?).getD undef, ?_, (Ext.gr (Ext.gr E11 E20) E34), ?_⟩, ?_⟩
      · first | rfl | (simp only [Int.natCast_add, Int.natCast_one]; rfl)
      · exact ⟨by omega, SameXTo.step hs (by assumption) (by assumption) (by show sameX eqI _ _ = _; assumption)⟩
      · omega
    have c16' := c16
    (try simp only [icmp, Bool.and_eq_true, Bool.or_eq_true, Bool.and_eq_false_iff, Bool.or_eq_false_iff, Bool.not_eq_true', Bool.not_eq_false', decide_eq_true_eq, decide_eq_false_iff_not, beq_iff_eq, bne_iff_ne, beq_eq_false_iff_ne, bne_eq_false_iff_eq] at c16')
    refine wp_exit ?_
    refine hK7 _ _ ?_
    refine wp_seq_k fun K41 hK41 => ?_
    refine wp_region_lit ?_
    refine q_is rfl rfl (does_assign (u := (Bo true)) (ev rfl)) (by dsimp only [List.set]; try rfl) ?_
    refine wpList_nil (hK41 _ _ ?_)
    refine wp_ret ?_
    refine ret_val (v := (Bo true)) (res_T rfl (slot rfl)) X13 ?_
    have x42 : (sameX eqIs L_a L_b) = true := by first | exact (sameX_len (by omega)) | exact (sameX_not (by omega) (by assumption) (by assumption) (by show sameX eqI _ _ = _; assumption)) | exact (sameX_all (by omega) (by omega) hs)
    exact (by first | with_reducible rfl | rw [x42] | rfl)

/- laws.eqMesh -/
theorem c_laws_eqMesh (a : List Value) (A_a : MeshT) (b : List Value) (A_b : MeshT) (w : World) (hv_a : RMeshT w A_a a) (hv_b : RMeshT w A_b b) : Gives Try.prog 12 #[(.agg a.toArray), (.agg b.toArray)] w (fun v w' => v = (Bo (sameMesh A_a A_b))) := by
  obtain ⟨y1, y3, rfl, h2, h4⟩ := hv_a
  obtain ⟨y5, y7, rfl, h6, h8⟩ := hv_b
  have hs11 := h2; have hs11l := Sl.len h2; obtain ⟨p9, q10, rfl⟩ := Sl.shape h2
  have hs14 := h4; have hs14l := Sl.len h4; obtain ⟨p12, q13, rfl⟩ := Sl.shape h4
  have hs17 := h6; have hs17l := Sl.len h6; obtain ⟨p15, q16, rfl⟩ := Sl.shape h6
  have hs20 := h8; have hs20l := Sl.len h8; obtain ⟨p18, q19, rfl⟩ := Sl.shape h8
  refine enter [(.agg #[(.slice p9 A_a.places.length q10), (.slice p12 A_a.tris.length q13)]), (.agg #[(.slice p15 A_b.places.length q16), (.slice p18 A_b.tris.length q19)]), Ud, Ud, Ud, Ud, Ud, Ud, Ud, Ud, Ud, Ud, Ud, Ud, Ud, Ud, Ud] Try.func12 rfl Try.ntmps12 rfl ?_
  refine wp_seq_k fun K21 hK21 => ?_
  refine wp_region_lit ?_
  refine seqd rfl rfl (does_box (u := (.agg #[(.slice p9 A_a.places.length q10), (.slice p12 A_a.tris.length q13)])) (ev rfl)) ?_; rintro _ w26 ⟨b22, rfl, hb23, hB24, E25⟩
  have g27 : w.heap.size ≤ b22 := Nat.le_trans (Below.size (Ext.refl w)) hb23
  change Blk _ _ [(.slice p9 A_a.places.length q10), (.slice p12 A_a.tris.length q13)] at hB24
  have X28 := Ext.gr (Ext.refl w) E25
  show wpList _ _ _ _ (fr [(.agg #[(.slice p9 A_a.places.length q10), (.slice p12 A_a.tris.length q13)]), (.agg #[(.slice p15 A_b.places.length q16), (.slice p18 A_b.tris.length q19)]), (Pt b22 0), Ud, Ud, Ud, Ud, Ud, Ud, Ud, Ud, Ud, Ud, Ud, Ud, Ud, Ud]) _
  refine seqd rfl rfl (does_box (u := (.agg #[(.slice p15 A_b.places.length q16), (.slice p18 A_b.tris.length q19)])) (ev rfl)) ?_; rintro _ w33 ⟨b29, rfl, hb30, hB31, E32⟩
  have n34 : b22 < b29 := Nat.lt_of_lt_of_le (Blk.lt hB24) hb30
  have g35 : w.heap.size ≤ b29 := Nat.le_trans (Below.size X28) hb30
  change Blk _ _ [(.slice p15 A_b.places.length q16), (.slice p18 A_b.tris.length q19)] at hB31
  have X36 := Ext.gr X28 E32
  show wpList _ _ _ _ (fr [(.agg #[(.slice p9 A_a.places.length q10), (.slice p12 A_a.tris.length q13)]), (.agg #[(.slice p15 A_b.places.length q16), (.slice p18 A_b.tris.length q19)]), (Pt b22 0), (Pt b29 0), Ud, Ud, Ud, Ud, Ud, Ud, Ud, Ud, Ud, Ud, Ud, Ud, Ud]) _
  refine q_is (l' := [(.agg #[(.slice p9 A_a.places.length q10), (.slice p12 A_a.tris.length q13)]), (.agg #[(.slice p15 A_b.places.length q16), (.slice p18 A_b.tris.length q19)]), (Pt b22 0), (Pt b29 0), (Bo false), Ud, Ud, Ud, Ud, Ud, Ud, Ud, Ud, Ud, Ud, Ud, Ud]) rfl rfl (does_assign (u := (Bo false)) (ev rfl)) rfl ?_
  refine wpList_nil (hK21 _ _ ?_)
  refine wp_seq_k fun K37 hK37 => ?_
  refine wp_seq_k fun K38 hK38 => ?_
  refine wp_region_lit ?_
  refine q_is (l' := [(.agg #[(.slice p9 A_a.places.length q10), (.slice p12 A_a.tris.length q13)]), (.agg #[(.slice p15 A_b.places.length q16), (.slice p18 A_b.tris.length q19)]), (Pt b22 0), (Pt b29 0), (Bo false), (Pt b22 0), Ud, Ud, Ud, Ud, Ud, Ud, Ud, Ud, Ud, Ud, Ud]) rfl rfl (does_fieldAddr (ev rfl) fa32_0) rfl ?_
  refine q_is (l' := [(.agg #[(.slice p9 A_a.places.length q10), (.slice p12 A_a.tris.length q13)]), (.agg #[(.slice p15 A_b.places.length q16), (.slice p18 A_b.tris.length q19)]), (Pt b22 0), (Pt b29 0), (Bo false), (Pt b22 0), (.slice p9 A_a.places.length q10), Ud, Ud, Ud, Ud, Ud, Ud, Ud, Ud, Ud, Ud]) rfl rfl (does_load (u := (.slice p9 A_a.places.length q10)) (ev rfl) Try.isAgg30 (Cells.at (Blk.cells (hB24.ext E32)) 0 rfl)) rfl ?_
  refine q_is (l' := [(.agg #[(.slice p9 A_a.places.length q10), (.slice p12 A_a.tris.length q13)]), (.agg #[(.slice p15 A_b.places.length q16), (.slice p18 A_b.tris.length q19)]), (Pt b22 0), (Pt b29 0), (Bo false), (Pt b22 0), (.slice p9 A_a.places.length q10), (Pt b29 0), Ud, Ud, Ud, Ud, Ud, Ud, Ud, Ud, Ud]) rfl rfl (does_fieldAddr (ev rfl) fa32_0) rfl ?_
  refine q_is (l' := [(.agg #[(.slice p9 A_a.places.length q10), (.slice p12 A_a.tris.length q13)]), (.agg #[(.slice p15 A_b.places.length q16), (.slice p18 A_b.tris.length q19)]), (Pt b22 0), (Pt b29 0), (Bo false), (Pt b22 0), (.slice p9 A_a.places.length q10), (Pt b29 0), (.slice p15 A_b.places.length q16), Ud, Ud, Ud, Ud, Ud, Ud, Ud, Ud]) rfl rfl (does_load (u := (.slice p15 A_b.places.length q16)) (ev rfl) Try.isAgg30 (Cells.at (Blk.cells hB31) 0 rfl)) rfl ?_
  refine seqd rfl rfl (does_call (args := #[(.slice p9 A_a.places.length q10), (.slice p15 A_b.places.length q16)]) cal31 (evs rfl) (c_laws_eqVectorS (.slice p9 A_a.places.length q10) A_a.places (.slice p15 A_b.places.length q16) A_b.places _ (Sl.ext hs11 RV3.mono X36) (Sl.ext hs17 RV3.mono X36))) ?_; rintro _ w40 ⟨E39, rfl⟩
  have X41 := Ext.gr X36 E39
  show wpList _ _ _ _ (fr [(.agg #[(.slice p9 A_a.places.length q10), (.slice p12 A_a.tris.length q13)]), (.agg #[(.slice p15 A_b.places.length q16), (.slice p18 A_b.tris.length q19)]), (Pt b22 0), (Pt b29 0), (Bo false), (Pt b22 0), (.slice p9 A_a.places.length q10), (Pt b29 0), (.slice p15 A_b.places.length q16), (Bo (sameX sameV A_a.places A_b.places)), Ud, Ud, Ud, Ud, Ud, Ud, Ud]) _
  refine q_is (l' := [(.agg #[(.slice p9 A_a.places.length q10), (.slice p12 A_a.tris.length q13)]), (.agg #[(.slice p15 A_b.places.length q16), (.slice p18 A_b.tris.length q19)]), (Pt b22 0), (Pt b29 0), (Bo false), (Pt b22 0), (.slice p9 A_a.places.length q10), (Pt b29 0), (.slice p15 A_b.places.length q16), (Bo (sameX sameV A_a.places A_b.places)), (Bo (!(sameX sameV A_a.places A_b.places))), Ud, Ud, Ud, Ud, Ud, Ud]) rfl rfl (does_not (ev rfl)) rfl ?_
  refine wpList_nil (hK38 _ _ ?_)
  refine wp_cond_split (t := !(sameX sameV A_a.places A_b.places)) (ev rfl) (fun c42 => ?_) (fun c42 => ?_)
  · rw [Bool.not_eq_true'] at c42
    have c42' := c42
    refine wp_seq_k fun K43 hK43 => ?_
    refine wp_region_lit ?_
    refine q_is (l' := [(.agg #[(.slice p9 A_a.places.length q10), (.slice p12 A_a.tris.length q13)]), (.agg #[(.slice p15 A_b.places.length q16), (.slice p18 A_b.tris.length q19)]), (Pt b22 0), (Pt b29 0), (Bo false), (Pt b22 0), (.slice p9 A_a.places.length q10), (Pt b29 0), (.slice p15 A_b.places.length q16), (Bo (sameX sameV A_a.places A_b.places)), (Bo (!(sameX sameV A_a.places A_b.places))), Ud, Ud, Ud, Ud, Ud, Ud]) rfl rfl (does_assign (u := (Bo false)) (ev rfl)) rfl ?_
    refine wpList_nil (hK43 _ _ ?_)
    refine wp_ret ?_
    dsimp only [Exit.then, Exit.inBlock]
    refine ret_val (v := (Bo false)) (res_T rfl (slot rfl)) X41 ?_
    have x44 : (sameMesh A_a A_b) = false := by first | with_reducible rfl | (simp only [sameMesh, c42]; done) | (simp [sameMesh, c42]; done) | (revert c42; simp +contextual [sameMesh]; done) | (rcases c42' with hh | hh <;> simp only [hh, sameMesh, c42]; done) | (rcases c42' with hh | hh <;> simp_all [sameMesh]; done) | (rcases c42' with hh | hh | hh <;> simp_all [sameMesh]; done) | (rcases c42' with hh | hh | hh | hh <;> simp_all [sameMesh]; done) | (simp_all [sameMesh]; done) | rfl
    exact (by first | with_reducible rfl | rw [x44] | rfl)
  rw [Bool.not_eq_false'] at c42
  have c42' := c42
  refine wp_skip (hK37 _ _ ?_)
  refine wp_seq_k fun K45 hK45 => ?_
  refine wp_seq_k fun K46 hK46 => ?_
  refine wp_region_lit ?_
  refine q_is (l' := [(.agg #[(.slice p9 A_a.places.length q10), (.slice p12 A_a.tris.length q13)]), (.agg #[(.slice p15 A_b.places.length q16), (.slice p18 A_b.tris.length q19)]), (Pt b22 0), (Pt b29 0), (Bo false), (Pt b22 0), (.slice p9 A_a.places.length q10), (Pt b29 0), (.slice p15 A_b.places.length q16), (Bo (sameX sameV A_a.places A_b.places)), (Bo (!(sameX sameV A_a.places A_b.places))), (Pt b22 1), Ud, Ud, Ud, Ud, Ud]) rfl rfl (does_fieldAddr (ev rfl) fa32_1) rfl ?_
  refine q_is (l' := [(.agg #[(.slice p9 A_a.places.length q10), (.slice p12 A_a.tris.length q13)]), (.agg #[(.slice p15 A_b.places.length q16), (.slice p18 A_b.tris.length q19)]), (Pt b22 0), (Pt b29 0), (Bo false), (Pt b22 0), (.slice p9 A_a.places.length q10), (Pt b29 0), (.slice p15 A_b.places.length q16), (Bo (sameX sameV A_a.places A_b.places)), (Bo (!(sameX sameV A_a.places A_b.places))), (Pt b22 1), (.slice p12 A_a.tris.length q13), Ud, Ud, Ud, Ud]) rfl rfl (does_load (u := (.slice p12 A_a.tris.length q13)) (ev rfl) Try.isAgg23 (Cells.at (Blk.cells ((hB24.ext E32).ext E39)) 1 rfl)) rfl ?_
  refine q_is (l' := [(.agg #[(.slice p9 A_a.places.length q10), (.slice p12 A_a.tris.length q13)]), (.agg #[(.slice p15 A_b.places.length q16), (.slice p18 A_b.tris.length q19)]), (Pt b22 0), (Pt b29 0), (Bo false), (Pt b22 0), (.slice p9 A_a.places.length q10), (Pt b29 0), (.slice p15 A_b.places.length q16), (Bo (sameX sameV A_a.places A_b.places)), (Bo (!(sameX sameV A_a.places A_b.places))), (Pt b22 1), (.slice p12 A_a.tris.length q13), (Pt b29 1), Ud, Ud, Ud]) rfl rfl (does_fieldAddr (ev rfl) fa32_1) rfl ?_
  refine q_is (l' := [(.agg #[(.slice p9 A_a.places.length q10), (.slice p12 A_a.tris.length q13)]), (.agg #[(.slice p15 A_b.places.length q16), (.slice p18 A_b.tris.length q19)]), (Pt b22 0), (Pt b29 0), (Bo false), (Pt b22 0), (.slice p9 A_a.places.length q10), (Pt b29 0), (.slice p15 A_b.places.length q16), (Bo (sameX sameV A_a.places A_b.places)), (Bo (!(sameX sameV A_a.places A_b.places))), (Pt b22 1), (.slice p12 A_a.tris.length q13), (Pt b29 1), (.slice p18 A_b.tris.length q19), Ud, Ud]) rfl rfl (does_load (u := (.slice p18 A_b.tris.length q19)) (ev rfl) Try.isAgg23 (Cells.at (Blk.cells (hB31.ext E39)) 1 rfl)) rfl ?_
  refine seqd rfl rfl (does_call (args := #[(.slice p12 A_a.tris.length q13), (.slice p18 A_b.tris.length q19)]) cal32 (evs rfl) (c_laws_eqInt64SS (.slice p12 A_a.tris.length q13) A_a.tris (.slice p18 A_b.tris.length q19) A_b.tris _ (Sl.ext hs14 (RS.mono RI.mono) X41) (Sl.ext hs20 (RS.mono RI.mono) X41))) ?_; rintro _ w48 ⟨E47, rfl⟩
  have X49 := Ext.gr X41 E47
  show wpList _ _ _ _ (fr [(.agg #[(.slice p9 A_a.places.length q10), (.slice p12 A_a.tris.length q13)]), (.agg #[(.slice p15 A_b.places.length q16), (.slice p18 A_b.tris.length q19)]), (Pt b22 0), (Pt b29 0), (Bo false), (Pt b22 0), (.slice p9 A_a.places.length q10), (Pt b29 0), (.slice p15 A_b.places.length q16), (Bo (sameX sameV A_a.places A_b.places)), (Bo (!(sameX sameV A_a.places A_b.places))), (Pt b22 1), (.slice p12 A_a.tris.length q13), (Pt b29 1), (.slice p18 A_b.tris.length q19), (Bo (sameX eqIs A_a.tris A_b.tris)), Ud]) _
  refine q_is (l' := [(.agg #[(.slice p9 A_a.places.length q10), (.slice p12 A_a.tris.length q13)]), (.agg #[(.slice p15 A_b.places.length q16), (.slice p18 A_b.tris.length q19)]), (Pt b22 0), (Pt b29 0), (Bo false), (Pt b22 0), (.slice p9 A_a.places.length q10), (Pt b29 0), (.slice p15 A_b.places.length q16), (Bo (sameX sameV A_a.places A_b.places)), (Bo (!(sameX sameV A_a.places A_b.places))), (Pt b22 1), (.slice p12 A_a.tris.length q13), (Pt b29 1), (.slice p18 A_b.tris.length q19), (Bo (sameX eqIs A_a.tris A_b.tris)), (Bo (!(sameX eqIs A_a.tris A_b.tris)))]) rfl rfl (does_not (ev rfl)) rfl ?_
  refine wpList_nil (hK46 _ _ ?_)
  refine wp_cond_split (t := !(sameX eqIs A_a.tris A_b.tris)) (ev rfl) (fun c50 => ?_) (fun c50 => ?_)
  · rw [Bool.not_eq_true'] at c50
    have c50' := c50
    refine wp_seq_k fun K51 hK51 => ?_
    refine wp_region_lit ?_
    refine q_is (l' := [(.agg #[(.slice p9 A_a.places.length q10), (.slice p12 A_a.tris.length q13)]), (.agg #[(.slice p15 A_b.places.length q16), (.slice p18 A_b.tris.length q19)]), (Pt b22 0), (Pt b29 0), (Bo false), (Pt b22 0), (.slice p9 A_a.places.length q10), (Pt b29 0), (.slice p15 A_b.places.length q16), (Bo (sameX sameV A_a.places A_b.places)), (Bo (!(sameX sameV A_a.places A_b.places))), (Pt b22 1), (.slice p12 A_a.tris.length q13), (Pt b29 1), (.slice p18 A_b.tris.length q19), (Bo (sameX eqIs A_a.tris A_b.tris)), (Bo (!(sameX eqIs A_a.tris A_b.tris)))]) rfl rfl (does_assign (u := (Bo false)) (ev rfl)) rfl ?_
    refine wpList_nil (hK51 _ _ ?_)
    refine wp_ret ?_
    dsimp only [Exit.then, Exit.inBlock]
    refine ret_val (v := (Bo false)) (res_T rfl (slot rfl)) X49 ?_
    have x52 : (sameMesh A_a A_b) = false := by first | with_reducible rfl | (simp only [sameMesh, c42, c50]; done) | (simp [sameMesh, c42, c50]; done) | (revert c42 c50; simp +contextual [sameMesh]; done) | (rcases c42' with hh | hh <;> simp only [hh, sameMesh, c42, c50]; done) | (rcases c50' with hh | hh <;> simp only [hh, sameMesh, c42, c50]; done) | (rcases c50' with hh | hh <;> simp_all [sameMesh]; done) | (rcases c50' with hh | hh | hh <;> simp_all [sameMesh]; done) | (rcases c50' with hh | hh | hh | hh <;> simp_all [sameMesh]; done) | (simp_all [sameMesh]; done) | rfl
    exact (by first | with_reducible rfl | rw [x52] | rfl)
  rw [Bool.not_eq_false'] at c50
  have c50' := c50
  refine wp_skip (hK45 _ _ ?_)
  refine wp_seq_k fun K53 hK53 => ?_
  refine wp_region_lit ?_
  refine q_is (l' := [(.agg #[(.slice p9 A_a.places.length q10), (.slice p12 A_a.tris.length q13)]), (.agg #[(.slice p15 A_b.places.length q16), (.slice p18 A_b.tris.length q19)]), (Pt b22 0), (Pt b29 0), (Bo true), (Pt b22 0), (.slice p9 A_a.places.length q10), (Pt b29 0), (.slice p15 A_b.places.length q16), (Bo (sameX sameV A_a.places A_b.places)), (Bo (!(sameX sameV A_a.places A_b.places))), (Pt b22 1), (.slice p12 A_a.tris.length q13), (Pt b29 1), (.slice p18 A_b.tris.length q19), (Bo (sameX eqIs A_a.tris A_b.tris)), (Bo (!(sameX eqIs A_a.tris A_b.tris)))]) rfl rfl (does_assign (u := (Bo true)) (ev rfl)) rfl ?_
  refine wpList_nil (hK53 _ _ ?_)
  refine wp_ret ?_
  refine ret_val (v := (Bo true)) (res_T rfl (slot rfl)) X49 ?_
  have x54 : (sameMesh A_a A_b) = true := by first | with_reducible rfl | (simp only [sameMesh, c42, c50]; done) | (simp [sameMesh, c42, c50]; done) | (revert c42 c50; simp +contextual [sameMesh]; done) | (rcases c42' with hh | hh <;> simp only [hh, sameMesh, c42, c50]; done) | (rcases c50' with hh | hh <;> simp only [hh, sameMesh, c42, c50]; done) | (rcases c50' with hh | hh <;> simp_all [sameMesh]; done) | (rcases c50' with hh | hh | hh <;> simp_all [sameMesh]; done) | (rcases c50' with hh | hh | hh | hh <;> simp_all [sameMesh]; done) | (simp_all [sameMesh]; done) | rfl
  exact (by first | with_reducible rfl | rw [x54] | rfl)

/- spec.l00In -/
theorem c_spec_l00In (n : Int) (low : Int) (high : Int) (w : World) : Gives Try.prog 43 #[(Iv n), (Iv low), (Iv high)] w (fun v w' => v = (Bo (inI n low high))) := by
  refine enter [(Iv n), (Iv low), (Iv high), Ud, Ud, Ud, Ud, Ud, Ud, Ud, Ud, Ud, Ud, Ud, Ud] Try.func43 rfl Try.ntmps43 rfl ?_
  refine wp_seq_k fun K1 hK1 => ?_
  refine wp_region_lit ?_
  refine q_is (l' := [(Iv n), (Iv low), (Iv high), Ud, Ud, Ud, (Bo false), Ud, Ud, Ud, Ud, Ud, Ud, Ud, Ud]) rfl rfl (does_assign (u := (Bo false)) (ev rfl)) rfl ?_
  refine wpList_nil (hK1 _ _ ?_)
  refine wp_seq_k fun K2 hK2 => ?_
  obtain ⟨β1, hβ1⟩ : ∃ b : Bool, b = ((icmp .geq n low) && (icmp .leq n high)) := ⟨_, rfl⟩
  refine region_text (
    [Fact.pure [] (fun v => v = (Iv n)),
    Fact.pure [] (fun v => v = (Iv low)),
    Fact.pure [7, 8] (fun v => v = (Bo (icmp .geq n low))),
    Fact.pure [9] (fun v => v = (Bo (icmp .geq n low))),
    Fact.pure [10] (fun v => (icmp .geq n low) = true → v = (Iv n)),
    Fact.pure [10] (fun v => (icmp .geq n low) = true → v = (Iv high)),
    Fact.pure [11, 12, 10] (fun v => (icmp .geq n low) = true → v = (Bo (icmp .leq n high))),
    Fact.pure [10, 13] (fun v => v = (Bo β1))]) (by simp [Fact.pure, Fact.mem]) ?_
  refine RW_d (fun v3 => [(Iv n), (Iv low), (Iv high), Ud, Ud, Ud, (Bo false), v3, Ud, Ud, Ud, Ud, Ud, Ud, Ud]) rfl (fun _ => rfl) (fun u hu hF => ?_) (fun v3 => ?_)
  · clear hF
    refine doesG_un rfl ?_
    refine (does_move (u := (Iv n)) (ev rfl)).mono ?_; rintro _ _ ⟨rfl, rfl⟩
    exact ⟨rfl, Ext.refl _⟩
  refine RW_d (fun v4 => [(Iv n), (Iv low), (Iv high), Ud, Ud, Ud, (Bo false), v3, v4, Ud, Ud, Ud, Ud, Ud, Ud]) rfl (fun _ => rfl) (fun u hu hF => ?_) (fun v4 => ?_)
  · clear hF
    refine doesG_un rfl ?_
    refine (does_move (u := (Iv low)) (ev rfl)).mono ?_; rintro _ _ ⟨rfl, rfl⟩
    exact ⟨rfl, Ext.refl _⟩
  refine RW_d (fun v5 => [(Iv n), (Iv low), (Iv high), Ud, Ud, Ud, (Bo false), v3, v4, v5, Ud, Ud, Ud, Ud, Ud]) rfl (fun _ => rfl) (fun u hu hF => ?_) (fun v5 => ?_)
  · have h7_ : v3 = (Iv n) := hF.1
    have h8_ : v4 = (Iv low) := hF.2.1
    clear hF
    refine doesG_un rfl ?_
    obtain rfl := h7_
    obtain rfl := h8_
    refine (does_icmp (p := n) (q := low) (.inr (.inr (.inr (.inr (.inr rfl))))) (ev rfl) (ev rfl)).mono ?_; rintro _ _ ⟨rfl, rfl⟩
    exact ⟨rfl, Ext.refl _⟩
  refine RW_d (fun v6 => [(Iv n), (Iv low), (Iv high), Ud, Ud, Ud, (Bo false), v3, v4, v5, v6, Ud, Ud, Ud, Ud]) rfl (fun _ => rfl) (fun u hu hF => ?_) (fun v6 => ?_)
  · have h9_ : v5 = (Bo (icmp .geq n low)) := hF.1
    clear hF
    refine doesG_un rfl ?_
    obtain rfl := h9_
    refine (does_move (u := (Bo (icmp .geq n low))) (ev rfl)).mono ?_; rintro _ _ ⟨rfl, rfl⟩
    exact ⟨rfl, Ext.refl _⟩
  refine RW_d (fun v7 => [(Iv n), (Iv low), (Iv high), Ud, Ud, Ud, (Bo false), v3, v4, v5, v6, v7, Ud, Ud, Ud]) rfl (fun _ => rfl) (fun u hu hF => ?_) (fun v7 => ?_)
  · have h10_ : v6 = (Bo (icmp .geq n low)) := hF.1
    clear hF
    obtain rfl := h10_
    refine doesG_g (b := (icmp .geq n low)) rfl (yld rfl rfl) (fun hg1 => ?_) (fun hc => ⟨fun hg1 => absurd hg1 hc, Ext.refl _⟩)
    refine (does_move (u := (Iv n)) (ev rfl)).mono ?_; rintro _ _ ⟨rfl, rfl⟩
    exact ⟨fun _ => rfl, Ext.refl _⟩
  refine RW_d (fun v8 => [(Iv n), (Iv low), (Iv high), Ud, Ud, Ud, (Bo false), v3, v4, v5, v6, v7, v8, Ud, Ud]) rfl (fun _ => rfl) (fun u hu hF => ?_) (fun v8 => ?_)
  · have h10_ : v6 = (Bo (icmp .geq n low)) := hF.1
    clear hF
    obtain rfl := h10_
    refine doesG_g (b := (icmp .geq n low)) rfl (yld rfl rfl) (fun hg1 => ?_) (fun hc => ⟨fun hg1 => absurd hg1 hc, Ext.refl _⟩)
    refine (does_move (u := (Iv high)) (ev rfl)).mono ?_; rintro _ _ ⟨rfl, rfl⟩
    exact ⟨fun _ => rfl, Ext.refl _⟩
  refine RW_d (fun v9 => [(Iv n), (Iv low), (Iv high), Ud, Ud, Ud, (Bo false), v3, v4, v5, v6, v7, v8, v9, Ud]) rfl (fun _ => rfl) (fun u hu hF => ?_) (fun v9 => ?_)
  · have h11_ : (icmp .geq n low) = true → v7 = (Iv n) := hF.1
    have h12_ : (icmp .geq n low) = true → v8 = (Iv high) := hF.2.1
    have h10_ : v6 = (Bo (icmp .geq n low)) := hF.2.2.1
    clear hF
    obtain rfl := h10_
    refine doesG_g (b := (icmp .geq n low)) rfl (yld rfl rfl) (fun hg1 => ?_) (fun hc => ⟨fun hg1 => absurd hg1 hc, Ext.refl _⟩)
    obtain rfl := h11_ hg1
    obtain rfl := h12_ hg1
    refine (does_icmp (p := n) (q := high) (.inr (.inr (.inr (.inl rfl)))) (ev rfl) (ev rfl)).mono ?_; rintro _ _ ⟨rfl, rfl⟩
    exact ⟨fun _ => rfl, Ext.refl _⟩
  refine RW_d (fun v10 => [(Iv n), (Iv low), (Iv high), Ud, Ud, Ud, (Bo false), v3, v4, v5, v6, v7, v8, v9, v10]) rfl (fun _ => rfl) (fun u hu hF => ?_) (fun v10 => ?_)
  · have h10_ : v6 = (Bo (icmp .geq n low)) := hF.1
    have h13_ : (icmp .geq n low) = true → v9 = (Bo (icmp .leq n high)) := hF.2.1
    clear hF
    refine doesG_un rfl ?_
    skip
    obtain rfl := h10_
    refine (does_pick (b := (icmp .geq n low)) (u := v9) (v := (Bo false)) (ev rfl) (ev rfl) (ev rfl)).mono ?_; rintro _ _ ⟨rfl, rfl⟩; refine ⟨?_, Ext.refl _⟩; rw [hβ1]; skip
    cases hbb : (icmp .geq n low)
    all_goals first | (show _ = _; simp only [↓reduceIte, Bool.true_and, Bool.false_and, Bool.true_or, Bool.false_or, Bool.false_eq_true]; done) | (have e_ := h13_ hbb; subst e_; show _ = _; simp only [↓reduceIte, Bool.true_and, Bool.false_and, Bool.true_or, Bool.false_or, Bool.false_eq_true]; done) | rfl | (have e_ := h13_ hbb; subst e_; rfl) | (simp [hbb] at h13_ ⊢; first | done | rfl | (subst h13_; rfl) | simp_all) | (simp [hbb] at h13_ ⊢; done)
  refine RW_fin ?_; intro w11 E12 hP13
  obtain ⟨⟨⟨⟨⟨⟨⟨⟨-, -⟩, -⟩, -⟩, -⟩, -⟩, -⟩, -⟩, q14⟩ := hP13
  have X15 := Ext.gr (Ext.refl w) E12
  have q14 : v10 = (Bo β1) := q14
  obtain rfl := q14
  show wpList _ _ _ _ (fr [(Iv n), (Iv low), (Iv high), Ud, Ud, Ud, (Bo false), v3, v4, v5, v6, v7, v8, v9, (Bo β1)]) _
  refine q_is (l' := [(Iv n), (Iv low), (Iv high), Ud, Ud, Ud, (Bo β1), v3, v4, v5, v6, v7, v8, v9, (Bo β1)]) rfl rfl (does_assign (u := (Bo β1)) (ev rfl)) rfl ?_
  refine wpList_nil (hK2 _ _ ?_)
  refine wp_ret ?_
  refine ret_val (v := (Bo β1)) (res_T rfl (slot rfl)) X15 ?_
  have x16 : (inI n low high) = β1 := by first | with_reducible rfl | (simp only [inI, hβ1]; done) | (simp [inI, hβ1]; done) | rfl
  exact (by first | with_reducible rfl | rw [x16] | rfl)

/- spec.l07Is -/
theorem c_spec_l07Is (m_b : Nat) (m_o : Nat) (m : List Value) (A_m : MeshT) (w : World) (hc_m : Cells w m_b m_o m) (hv_m : RMeshT w A_m m) : Gives Try.prog 25 #[(Pt m_b m_o)] w (fun v w' => v = (Bo (meshOk A_m))) := by
  obtain ⟨y1, y3, rfl, h2, h4⟩ := hv_m
  have hs7 := h2; have hs7l := Sl.len h2; obtain ⟨p5, q6, rfl⟩ := Sl.shape h2
  have hs10 := h4; have hs10l := Sl.len h4; obtain ⟨p8, q9, rfl⟩ := Sl.shape h4
  refine enter [(Pt m_b m_o), Ud, Ud, Ud, Ud, Ud, Ud, Ud, Ud, Ud, Ud, Ud, Ud, Ud, Ud, Ud, Ud, Ud, Ud, Ud, Ud, Ud, Ud, Ud, Ud, Ud, Ud, Ud, Ud, Ud, Ud, Ud, Ud, Ud, Ud, Ud, Ud, Ud, Ud, Ud, Ud, Ud, Ud, Ud, Ud, Ud, Ud, Ud, Ud, Ud, Ud, Ud, Ud, Ud, Ud, Ud, Ud, Ud, Ud, Ud, Ud, Ud, Ud, Ud, Ud, Ud, Ud, Ud, Ud, Ud, Ud, Ud, Ud, Ud, Ud, Ud, Ud, Ud, Ud, Ud, Ud, Ud, Ud, Ud, Ud, Ud, Ud, Ud, Ud, Ud, Ud, Ud, Ud, Ud] Try.func25 rfl Try.ntmps25 rfl ?_
  refine wp_seq_k fun K11 hK11 => ?_
  refine wp_region_lit ?_
  refine q_is rfl rfl (does_assign (u := (Bo false)) (ev rfl)) (by dsimp only [List.set]; try rfl) ?_
  refine wpList_nil (hK11 _ _ ?_)
  refine wp_seq_k fun K12 hK12 => ?_
  refine wp_region_lit ?_
  refine q_is rfl rfl (does_move (u := (Pt m_b m_o)) (ev rfl)) (by dsimp only [List.set]; try rfl) ?_
  refine q_is rfl rfl (does_nilCheck (ev rfl)) (by dsimp only [List.set]; try rfl) ?_
  refine q_is rfl rfl (does_fieldAddr (ev rfl) fa32_0) (by dsimp only [List.set]; try rfl) ?_
  refine q_is rfl rfl (does_load (u := (.slice p5 A_m.places.length q6)) (ev rfl) Try.isAgg30 (Cells.at hc_m 0 rfl)) (by dsimp only [List.set]; try rfl) ?_
  refine q_is rfl rfl (does_len_slice Try.underlying30 (ev rfl)) (by dsimp only [List.set]; try rfl) ?_
  refine q_is rfl rfl (does_assign (u := (Iv (A_m.places.length : Int))) (ev rfl)) (by dsimp only [List.set]; try rfl) ?_
  refine wpList_nil (hK12 _ _ ?_)
  refine wp_seq_k fun K13 hK13 => ?_
  refine wp_seq_k fun K14 hK14 => ?_
  obtain ⟨β1, hβ1⟩ : ∃ b : Bool, b = (icmp .gtr (A_m.places.length : Int) 8192) := ⟨_, rfl⟩
  obtain ⟨β2, hβ2⟩ : ∃ b : Bool, b = (icmp .gtr (A_m.tris.length : Int) 9000) := ⟨_, rfl⟩
  refine region_text (
    [Fact.pure [] (fun v => v = (Iv (A_m.places.length : Int))),
    Fact.pure [11] (fun v => v = (Bo β1)),
    Fact.pure [12] (fun v => v = (Bo β1)),
    Fact.pure [13] (fun v => β1 = false → v = (Pt m_b m_o)),
    Fact.pure [14, 13] (fun v => β1 = false → v = (Pt m_b m_o)),
    Fact.pure [15, 13] (fun v => β1 = false → v = (Pt m_b (m_o + 1))),
    Fact.pure [16, 13] (fun v => β1 = false → v = (.slice p8 A_m.tris.length q9)),
    Fact.pure [17, 13] (fun v => β1 = false → v = (Iv (A_m.tris.length : Int))),
    Fact.pure [18, 13] (fun v => β1 = false → v = (Bo β2)),
    Fact.pure [13, 19] (fun v => v = (Bo (β1 || β2)))]) (by simp [Fact.pure, Fact.mem]) ?_
  refine RW_d _ rfl (fun v => by dsimp only [List.set]; try rfl) (fun u hu hF => ?_) (fun v15 => ?_)
  · clear hF
    refine doesG_un rfl ?_
    refine (does_move (u := (Iv (A_m.places.length : Int))) (ev rfl)).mono ?_; rintro _ _ ⟨rfl, rfl⟩
    exact ⟨rfl, Ext.refl _⟩
  refine RW_d _ rfl (fun v => by dsimp only [List.set]; try rfl) (fun u hu hF => ?_) (fun v16 => ?_)
  · have h11_ : v15 = (Iv (A_m.places.length : Int)) := hF.1
    clear hF
    refine doesG_un rfl ?_
    obtain rfl := h11_
    refine (does_icmp (p := (A_m.places.length : Int)) (q := 8192) (.inr (.inr (.inr (.inr (.inl rfl))))) (ev rfl) (ev rfl)).mono ?_; rintro _ _ ⟨rfl, rfl⟩
    exact ⟨(by first | rfl | (show _ = _; simp only [hβ1]; done) | (show _ = _; simp only [hβ1]; rfl)), Ext.refl _⟩
  refine RW_d _ rfl (fun v => by dsimp only [List.set]; try rfl) (fun u hu hF => ?_) (fun v17 => ?_)
  · have h12_ : v16 = (Bo β1) := hF.1
    clear hF
    refine doesG_un rfl ?_
    obtain rfl := h12_
    refine (does_move (u := (Bo β1)) (ev rfl)).mono ?_; rintro _ _ ⟨rfl, rfl⟩
    exact ⟨rfl, Ext.refl _⟩
  refine RW_d _ rfl (fun v => by dsimp only [List.set]; try rfl) (fun u hu hF => ?_) (fun v18 => ?_)
  · have h13_ : v17 = (Bo β1) := hF.1
    clear hF
    obtain rfl := h13_
    refine doesG_g (b := β1) rfl (yld rfl rfl) (fun hg1 => ?_) (fun hc => ⟨fun hg1 => absurd hg1 hc, Ext.refl _⟩)
    refine (does_move (u := (Pt m_b m_o)) (ev rfl)).mono ?_; rintro _ _ ⟨rfl, rfl⟩
    exact ⟨fun _ => rfl, Ext.refl _⟩
  refine RW_d _ rfl (fun v => by dsimp only [List.set]; try rfl) (fun u hu hF => ?_) (fun v19 => ?_)
  · have h14_ : β1 = false → v18 = (Pt m_b m_o) := hF.1
    have h13_ : v17 = (Bo β1) := hF.2.1
    clear hF
    obtain rfl := h13_
    refine doesG_g (b := β1) rfl (yld rfl rfl) (fun hg1 => ?_) (fun hc => ⟨fun hg1 => absurd hg1 hc, Ext.refl _⟩)
    obtain rfl := h14_ hg1
    refine (does_nilCheck (ev rfl)).mono ?_; rintro _ _ ⟨rfl, rfl⟩
    exact ⟨fun _ => rfl, Ext.refl _⟩
  refine RW_d _ rfl (fun v => by dsimp only [List.set]; try rfl) (fun u hu hF => ?_) (fun v20 => ?_)
  · have h15_ : β1 = false → v19 = (Pt m_b m_o) := hF.1
    have h13_ : v17 = (Bo β1) := hF.2.1
    clear hF
    obtain rfl := h13_
    refine doesG_g (b := β1) rfl (yld rfl rfl) (fun hg1 => ?_) (fun hc => ⟨fun hg1 => absurd hg1 hc, Ext.refl _⟩)
    obtain rfl := h15_ hg1
    refine (does_fieldAddr (ev rfl) fa32_1).mono ?_; rintro _ _ ⟨rfl, rfl⟩
    exact ⟨fun _ => rfl, Ext.refl _⟩
  refine RW_d _ rfl (fun v => by dsimp only [List.set]; try rfl) (fun u hu hF => ?_) (fun v21 => ?_)
  · have h16_ : β1 = false → v20 = (Pt m_b (m_o + 1)) := hF.1
    have h13_ : v17 = (Bo β1) := hF.2.1
    clear hF
    obtain rfl := h13_
    refine doesG_g (b := β1) rfl (yld rfl rfl) (fun hg1 => ?_) (fun hc => ⟨fun hg1 => absurd hg1 hc, Ext.refl _⟩)
    obtain rfl := h16_ hg1
    refine (does_load (u := (.slice p8 A_m.tris.length q9)) (ev rfl) Try.isAgg23 (Cells.at (hc_m.ext hu) 1 rfl)).mono ?_; rintro _ _ ⟨rfl, rfl⟩
    exact ⟨fun _ => rfl, Ext.refl _⟩
  refine RW_d _ rfl (fun v => by dsimp only [List.set]; try rfl) (fun u hu hF => ?_) (fun v22 => ?_)
  · have h17_ : β1 = false → v21 = (.slice p8 A_m.tris.length q9) := hF.1
    have h13_ : v17 = (Bo β1) := hF.2.1
    clear hF
    obtain rfl := h13_
    refine doesG_g (b := β1) rfl (yld rfl rfl) (fun hg1 => ?_) (fun hc => ⟨fun hg1 => absurd hg1 hc, Ext.refl _⟩)
    obtain rfl := h17_ hg1
    refine (does_len_slice Try.underlying23 (ev rfl)).mono ?_; rintro _ _ ⟨rfl, rfl⟩
    exact ⟨fun _ => rfl, Ext.refl _⟩
  refine RW_d _ rfl (fun v => by dsimp only [List.set]; try rfl) (fun u hu hF => ?_) (fun v23 => ?_)
  · have h18_ : β1 = false → v22 = (Iv (A_m.tris.length : Int)) := hF.1
    have h13_ : v17 = (Bo β1) := hF.2.1
    clear hF
    obtain rfl := h13_
    refine doesG_g (b := β1) rfl (yld rfl rfl) (fun hg1 => ?_) (fun hc => ⟨fun hg1 => absurd hg1 hc, Ext.refl _⟩)
    obtain rfl := h18_ hg1
    refine (does_icmp (p := (A_m.tris.length : Int)) (q := 9000) (.inr (.inr (.inr (.inr (.inl rfl))))) (ev rfl) (ev rfl)).mono ?_; rintro _ _ ⟨rfl, rfl⟩
    exact ⟨fun _ => (by first | rfl | (show _ = _; simp only [hβ2]; done) | (show _ = _; simp only [hβ2]; rfl)), Ext.refl _⟩
  refine RW_d _ rfl (fun v => by dsimp only [List.set]; try rfl) (fun u hu hF => ?_) (fun v24 => ?_)
  · have h13_ : v17 = (Bo β1) := hF.1
    have h19_ : β1 = false → v23 = (Bo β2) := hF.2.1
    clear hF
    refine doesG_un rfl ?_
    skip
    obtain rfl := h13_
    refine (does_pick (b := β1) (u := (Bo true)) (v := v23) (ev rfl) (ev rfl) (ev rfl)).mono ?_; rintro _ _ ⟨rfl, rfl⟩; refine ⟨?_, Ext.refl _⟩; skip
    cases hbb : β1
    all_goals first | (show _ = _; simp only [↓reduceIte, Bool.true_and, Bool.false_and, Bool.true_or, Bool.false_or, Bool.false_eq_true]; done) | (have e_ := h19_ hbb; subst e_; show _ = _; simp only [↓reduceIte, Bool.true_and, Bool.false_and, Bool.true_or, Bool.false_or, Bool.false_eq_true]; done) | rfl | (have e_ := h19_ hbb; subst e_; rfl) | (simp [hbb] at h19_ ⊢; first | done | rfl | (subst h19_; rfl) | simp_all) | (simp [hbb] at h19_ ⊢; done)
  refine RW_fin ?_; intro w25 E26 hP27
  obtain ⟨⟨⟨⟨⟨⟨⟨⟨⟨⟨-, -⟩, -⟩, -⟩, -⟩, -⟩, -⟩, -⟩, -⟩, -⟩, q28⟩ := hP27
  have X29 := Ext.gr (Ext.refl w) E26
  have q28 : v24 = (Bo (β1 || β2)) := q28
  obtain rfl := q28
  show wpList _ _ _ _ (fr [_, _, _, _, _, _, _, _, _, _, _, _, _, _, _, _, _, _, _, _, _, _, _, _, _, _, _, _, _, _, _, _, _, _, _, _, _, _, _, _, _, _, _, _, _, _, _, _, _, _, _, _, _, _, _, _, _, _, _, _, _, _, _, _, _, _, _, _, _, _, _, _, _, _, _, _, _, _, _, _, _, _, _, _, _, _, _, _, _, _, _, _, _, _]) _
  refine wpList_nil (hK14 _ _ ?_)
  refine wp_cond_split (t := β1 || β2) (ev rfl) (fun c30 => ?_) (fun c30 => ?_)
  · have c30' := c30
    (try simp only [hβ1, hβ2] at c30')
    (try simp only [icmp, Bool.and_eq_true, Bool.or_eq_true, Bool.and_eq_false_iff, Bool.or_eq_false_iff, Bool.not_eq_true', Bool.not_eq_false', decide_eq_true_eq, decide_eq_false_iff_not, beq_iff_eq, bne_iff_ne, beq_eq_false_iff_ne, bne_eq_false_iff_eq] at c30')
    refine wp_seq_k fun K31 hK31 => ?_
    refine wp_region_lit ?_
    refine q_is rfl rfl (does_assign (u := (Bo false)) (ev rfl)) (by dsimp only [List.set]; try rfl) ?_
    refine wpList_nil (hK31 _ _ ?_)
    refine wp_ret ?_
    dsimp only [Exit.then, Exit.inBlock]
    refine ret_val (v := (Bo false)) (res_T rfl (slot rfl)) X29 ?_
    try simp only [hβ1, hβ2] at c30
    have x32 : (meshOk A_m) = false := by first | exact meshOk_big (by assumption) | exact meshOk_bad (by assumption) (triS_bad (by assumption) (by assumption) (by assumption) (by assumption)) | exact meshOk_ok (by assumption) hal (by omega)
    exact (by first | with_reducible rfl | rw [x32] | rfl)
  have c30' := c30
  (try simp only [hβ1, hβ2] at c30')
  (try simp only [icmp, Bool.and_eq_true, Bool.or_eq_true, Bool.and_eq_false_iff, Bool.or_eq_false_iff, Bool.not_eq_true', Bool.not_eq_false', decide_eq_true_eq, decide_eq_false_iff_not, beq_iff_eq, bne_iff_ne, beq_eq_false_iff_ne, bne_eq_false_iff_eq] at c30')
  refine wp_skip (hK13 _ _ ?_)
  refine wp_seq_k fun K33 hK33 => ?_
  refine wp_seq_k fun K34 hK34 => ?_
  refine wp_region_lit ?_
  refine q_is rfl rfl (does_move (u := (Pt m_b m_o)) (ev rfl)) (by dsimp only [List.set]; try rfl) ?_
  refine q_is rfl rfl (does_nilCheck (ev rfl)) (by dsimp only [List.set]; try rfl) ?_
  refine q_is rfl rfl (does_fieldAddr (ev rfl) fa32_1) (by dsimp only [List.set]; try rfl) ?_
  refine q_is rfl rfl (does_load (u := (.slice p8 A_m.tris.length q9)) (ev rfl) Try.isAgg23 (Cells.at (hc_m.ext X29) 1 rfl)) (by dsimp only [List.set]; try rfl) ?_
  refine q_is rfl rfl (does_len_slice Try.underlying23 (ev rfl)) (by dsimp only [List.set]; try rfl) ?_
  refine q_is rfl rfl (does_move (u := (Iv 0)) (ev rfl)) (by dsimp only [List.set]; try rfl) ?_
  refine wpList_nil (hK34 _ _ ?_)
  refine wp_block ?_
  refine loop_ghost (σ := Nat) (fun k a w' => ∃ u35 : Nat → Value, a = fr [(Pt m_b m_o), Ud, (u35 2), (Iv (A_m.places.length : Int)), (u35 4), (u35 5), (Pt m_b m_o), (Pt m_b m_o), (Pt m_b m_o), (.slice p5 A_m.places.length q6), (Iv (A_m.places.length : Int)), v15, v16, v17, v18, v19, v20, v21, v22, v23, (Bo (β1 || β2)), (Pt m_b m_o), (Pt m_b m_o), (Pt m_b (m_o + 1)), (.slice p8 A_m.tris.length q9), (Iv (A_m.tris.length : Int)), (Iv (k : Int)), (u35 27), (u35 28), (u35 29), (u35 30), (u35 31), (u35 32), (u35 33), (u35 34), (u35 35), (u35 36), (u35 37), (u35 38), (u35 39), (u35 40), (u35 41), (u35 42), (u35 43), (u35 44), (u35 45), (u35 46), (u35 47), (u35 48), (u35 49), (u35 50), (u35 51), (u35 52), (u35 53), (u35 54), (u35 55), (u35 56), (u35 57), (u35 58), (u35 59), (u35 60), (u35 61), (u35 62), (u35 63), (u35 64), (u35 65), (u35 66), (u35 67), (u35 68), (u35 69), (u35 70), (u35 71), (u35 72), (u35 73), (u35 74), (u35 75), (u35 76), (u35 77), (u35 78), (u35 79), (u35 80), (u35 81), (u35 82), (u35 83), (u35 84), (u35 85), (u35 86), (u35 87), (u35 88), (u35 89), (u35 90), (u35 91), (u35 92), (u35 93)] ∧ Ext w25 w' ∧ (k ≤ A_m.tris.length ∧ AllTo (triOk A_m.places.length) A_m.tris k)) (fun k => A_m.tris.length - k) 0 ?_ ?_
  · refine ⟨fun t => (([(Pt m_b m_o), Ud, (Bo false), (Iv (A_m.places.length : Int)), Ud, Ud, (Pt m_b m_o), (Pt m_b m_o), (Pt m_b m_o), (.slice p5 A_m.places.length q6), (Iv (A_m.places.length : Int)), v15, v16, v17, v18, v19, v20, v21, v22, v23, (Bo (β1 || β2)), (Pt m_b m_o), (Pt m_b m_o), (Pt m_b (m_o + 1)), (.slice p8 A_m.tris.length q9), (Iv (A_m.tris.length : Int)), (Iv 0), Ud, Ud, Ud, Ud, Ud, Ud, Ud, Ud, Ud, Ud, Ud, Ud, Ud, Ud, Ud, Ud, Ud, Ud, Ud, Ud, Ud, Ud, Ud, Ud, Ud, Ud, Ud, Ud, Ud, Ud, Ud, Ud, Ud, Ud, Ud, Ud, Ud, Ud, Ud, Ud, Ud, Ud, Ud, Ud, Ud, Ud, Ud, Ud, Ud, Ud, Ud, Ud, Ud, Ud, Ud, Ud, Ud, Ud, Ud, Ud, Ud, Ud, Ud, Ud, Ud, Ud, Ud] : List Value)[t]?).getD undef, rfl, Ext.refl _, ?_⟩
    exact ⟨Nat.zero_le _, AllTo.zero⟩
  · rintro k a w36 ⟨u35, rfl, E37, ⟨hk, hal⟩⟩
    have X39 := Ext.gr X29 E37
    refine wp_seq_k fun K40 hK40 => ?_
    refine wp_region_lit ?_
    refine q_is rfl rfl (does_icmp (p := (k : Int)) (q := (A_m.tris.length : Int)) (.inr (.inr (.inl rfl))) (ev rfl) (ev rfl)) (by dsimp only [List.set]; try rfl) ?_
    refine wpList_nil (hK40 _ _ ?_)
    refine wp_seq_k fun K41 hK41 => ?_
    refine wp_cond_split (t := icmp .lss (k : Int) (A_m.tris.length : Int)) (ev rfl) (fun c42 => ?_) (fun c42 => ?_)
    · have c42' := c42
      (try simp only [hβ1, hβ2] at c42')
      (try simp only [icmp, Bool.and_eq_true, Bool.or_eq_true, Bool.and_eq_false_iff, Bool.or_eq_false_iff, Bool.not_eq_true', Bool.not_eq_false', decide_eq_true_eq, decide_eq_false_iff_not, beq_iff_eq, bne_iff_ne, beq_eq_false_iff_ne, bne_eq_false_iff_eq] at c42')
      refine wp_skip (hK41 _ _ ?_)
      refine wp_seq_k fun K43 hK43 => ?_
      refine wp_block ?_
      refine wp_seq_k fun K44 hK44 => ?_
      refine wp_region_lit ?_
      refine q_is rfl rfl (does_move (u := (Iv (k : Int))) (ev rfl)) (by dsimp only [List.set]; try rfl) ?_
      refine q_is rfl rfl (does_assign (u := (Iv (k : Int))) (ev rfl)) (by dsimp only [List.set]; try rfl) ?_
      refine wpList_nil (hK44 _ _ ?_)
      refine wp_seq_k fun K45 hK45 => ?_
      refine wp_region_lit ?_
      refine q_is rfl rfl (does_move (u := (Pt m_b m_o)) (ev rfl)) (by dsimp only [List.set]; try rfl) ?_
      refine q_is rfl rfl (does_nilCheck (ev rfl)) (by dsimp only [List.set]; try rfl) ?_
      refine q_is rfl rfl (does_fieldAddr (ev rfl) fa32_1) (by dsimp only [List.set]; try rfl) ?_
      refine q_is rfl rfl (does_load (u := (.slice p8 A_m.tris.length q9)) (ev rfl) Try.isAgg23 (Cells.at (hc_m.ext X39) 1 rfl)) (by dsimp only [List.set]; try rfl) ?_
      refine q_is rfl rfl (does_move (u := (Iv (k : Int))) (ev rfl)) (by dsimp only [List.set]; try rfl) ?_
      obtain ⟨el1, hel1⟩ : ∃ e, A_m.tris[k]? = some e := ⟨_, List.getElem?_eq_getElem (by omega)⟩
      refine seqd rfl rfl (does_indexSl (R := (RS RI 1)) (i := (k : Int)) (xs := A_m.tris) (e := el1) Try.underlying23 Try.sizeOf27 (ev rfl) (ev rfl) (Sl.ext hs10 (RS.mono RI.mono) X39) (by omega) hel1) ?_; rintro _ w36 ⟨b46, o47, _, rfl, hc49, ⟨y50, rfl, h51⟩, rfl⟩
      have hs54 := h51; have hs54l := Sl.len h51; obtain ⟨p52, q53, rfl⟩ := Sl.shape h51
      show wpList _ _ _ _ (fr [_, _, _, _, _, _, _, _, _, _, _, _, _, _, _, _, _, _, _, _, _, _, _, _, _, _, _, _, _, _, _, _, _, _, _, _, _, _, _, _, _, _, _, _, _, _, _, _, _, _, _, _, _, _, _, _, _, _, _, _, _, _, _, _, _, _, _, _, _, _, _, _, _, _, _, _, _, _, _, _, _, _, _, _, _, _, _, _, _, _, _, _, _, _]) _
      refine q_is rfl rfl (does_load (u := (.slice p52 el1.length q53)) (ev rfl) Try.isAgg27 (Cells.at hc49 0 rfl)) (by dsimp only [List.set]; try rfl) ?_
      refine q_is rfl rfl (does_assign (u := (.slice p52 el1.length q53)) (ev rfl)) (by dsimp only [List.set]; try rfl) ?_
      refine wpList_nil (hK45 _ _ ?_)
      refine wp_seq_k fun K55 hK55 => ?_
      obtain ⟨β3, hβ3⟩ : ∃ b : Bool, b = (icmp .neq (el1.length : Int) 3) := ⟨_, rfl⟩
      obtain ⟨el2, hel2⟩ := exists_el (0 : Int) el1 0
      obtain ⟨β4, hβ4⟩ : ∃ b : Bool, b = (inI el2 0 (IntKind.i64.wrap ((A_m.places.length : Int) - 1))) := ⟨_, rfl⟩
      obtain ⟨el3, hel3⟩ := exists_el (0 : Int) el1 1
      obtain ⟨β5, hβ5⟩ : ∃ b : Bool, b = (inI el3 0 (IntKind.i64.wrap ((A_m.places.length : Int) - 1))) := ⟨_, rfl⟩
      obtain ⟨el4, hel4⟩ := exists_el (0 : Int) el1 2
      obtain ⟨β6, hβ6⟩ : ∃ b : Bool, b = (inI el4 0 (IntKind.i64.wrap ((A_m.places.length : Int) - 1))) := ⟨_, rfl⟩
      obtain ⟨β7, hβ7⟩ : ∃ b : Bool, b = (((β3 || (!β4)) || (!β5)) || (!β6)) := ⟨_, rfl⟩
      obtain ⟨β8, hβ8⟩ : ∃ b : Bool, b = (β7 || (icmp .eql el2 el3)) := ⟨_, rfl⟩
      obtain ⟨β9, hβ9⟩ : ∃ b : Bool, b = (β8 || (icmp .eql el3 el4)) := ⟨_, rfl⟩
      obtain ⟨β10, hβ10⟩ : ∃ b : Bool, b = (β9 || (icmp .eql el4 el2)) := ⟨_, rfl⟩
      refine region_draw (
        [Fact.pure [] (fun v => v = (.slice p52 el1.length q53)),
    Fact.pure [36] (fun v => v = (Iv (el1.length : Int))),
    Fact.pure [37] (fun v => v = (Bo β3)),
    Fact.pure [38] (fun v => v = (Bo β3)),
    Fact.pure [39] (fun v => β3 = false → v = (.slice p52 el1.length q53)),
    Fact.mem [40, 39] (fun v w' => β3 = false → PtrR RI w' v el2) (by intro v w1 w2 hx h; exact fun hg1 => (h hg1).ext RI.mono hx),
    Fact.pure [41, 39] (fun v => β3 = false → v = (Iv el2)),
    Fact.pure [39] (fun v => β3 = false → v = (Iv (A_m.places.length : Int))),
    Fact.pure [43, 39] (fun v => β3 = false → v = (Iv (IntKind.i64.wrap ((A_m.places.length : Int) - 1)))),
    Fact.pure [42, 44, 39] (fun v => β3 = false → v = (Bo β4)),
    Fact.pure [45, 39] (fun v => β3 = false → v = (Bo (!β4))),
    Fact.pure [39, 46] (fun v => v = (Bo (β3 || (!β4)))),
    Fact.pure [47] (fun v => v = (Bo (β3 || (!β4)))),
    Fact.pure [48] (fun v => (β3 || (!β4)) = false → v = (.slice p52 el1.length q53)),
    Fact.mem [49, 48] (fun v w' => (β3 || (!β4)) = false → PtrR RI w' v el3) (by intro v w1 w2 hx h; exact fun hg1 => (h hg1).ext RI.mono hx),
    Fact.pure [50, 48] (fun v => (β3 || (!β4)) = false → v = (Iv el3)),
    Fact.pure [48] (fun v => (β3 || (!β4)) = false → v = (Iv (A_m.places.length : Int))),
    Fact.pure [52, 48] (fun v => (β3 || (!β4)) = false → v = (Iv (IntKind.i64.wrap ((A_m.places.length : Int) - 1)))),
    Fact.pure [51, 53, 48] (fun v => (β3 || (!β4)) = false → v = (Bo β5)),
    Fact.pure [54, 48] (fun v => (β3 || (!β4)) = false → v = (Bo (!β5))),
    Fact.pure [48, 55] (fun v => v = (Bo ((β3 || (!β4)) || (!β5)))),
    Fact.pure [56] (fun v => v = (Bo ((β3 || (!β4)) || (!β5)))),
    Fact.pure [57] (fun v => ((β3 || (!β4)) || (!β5)) = false → v = (.slice p52 el1.length q53)),
    Fact.mem [58, 57] (fun v w' => ((β3 || (!β4)) || (!β5)) = false → PtrR RI w' v el4) (by intro v w1 w2 hx h; exact fun hg1 => (h hg1).ext RI.mono hx),
    Fact.pure [59, 57] (fun v => ((β3 || (!β4)) || (!β5)) = false → v = (Iv el4)),
    Fact.pure [57] (fun v => ((β3 || (!β4)) || (!β5)) = false → v = (Iv (A_m.places.length : Int))),
    Fact.pure [61, 57] (fun v => ((β3 || (!β4)) || (!β5)) = false → v = (Iv (IntKind.i64.wrap ((A_m.places.length : Int) - 1)))),
    Fact.pure [60, 62, 57] (fun v => ((β3 || (!β4)) || (!β5)) = false → v = (Bo β6)),
    Fact.pure [63, 57] (fun v => ((β3 || (!β4)) || (!β5)) = false → v = (Bo (!β6))),
    Fact.pure [57, 64] (fun v => v = (Bo β7)),
    Fact.pure [65] (fun v => v = (Bo β7)),
    Fact.pure [66] (fun v => β7 = false → v = (.slice p52 el1.length q53)),
    Fact.mem [67, 66] (fun v w' => β7 = false → PtrR RI w' v el2) (by intro v w1 w2 hx h; exact fun hg1 => (h hg1).ext RI.mono hx),
    Fact.pure [68, 66] (fun v => β7 = false → v = (Iv el2)),
    Fact.pure [66] (fun v => β7 = false → v = (.slice p52 el1.length q53)),
    Fact.mem [70, 66] (fun v w' => β7 = false → PtrR RI w' v el3) (by intro v w1 w2 hx h; exact fun hg1 => (h hg1).ext RI.mono hx),
    Fact.pure [71, 66] (fun v => β7 = false → v = (Iv el3)),
    Fact.pure [69, 72, 66] (fun v => β7 = false → v = (Bo (icmp .eql el2 el3))),
    Fact.pure [66, 73] (fun v => v = (Bo β8)),
    Fact.pure [74] (fun v => v = (Bo β8)),
    Fact.pure [75] (fun v => β8 = false → v = (.slice p52 el1.length q53)),
    Fact.mem [76, 75] (fun v w' => β8 = false → PtrR RI w' v el3) (by intro v w1 w2 hx h; exact fun hg1 => (h hg1).ext RI.mono hx),
    Fact.pure [77, 75] (fun v => β8 = false → v = (Iv el3)),
    Fact.pure [75] (fun v => β8 = false → v = (.slice p52 el1.length q53)),
    Fact.mem [79, 75] (fun v w' => β8 = false → PtrR RI w' v el4) (by intro v w1 w2 hx h; exact fun hg1 => (h hg1).ext RI.mono hx),
    Fact.pure [80, 75] (fun v => β8 = false → v = (Iv el4)),
    Fact.pure [78, 81, 75] (fun v => β8 = false → v = (Bo (icmp .eql el3 el4))),
    Fact.pure [75, 82] (fun v => v = (Bo β9)),
    Fact.pure [83] (fun v => v = (Bo β9)),
    Fact.pure [84] (fun v => β9 = false → v = (.slice p52 el1.length q53)),
    Fact.mem [85, 84] (fun v w' => β9 = false → PtrR RI w' v el4) (by intro v w1 w2 hx h; exact fun hg1 => (h hg1).ext RI.mono hx),
    Fact.pure [86, 84] (fun v => β9 = false → v = (Iv el4)),
    Fact.pure [84] (fun v => β9 = false → v = (.slice p52 el1.length q53)),
    Fact.mem [88, 84] (fun v w' => β9 = false → PtrR RI w' v el2) (by intro v w1 w2 hx h; exact fun hg1 => (h hg1).ext RI.mono hx),
    Fact.pure [89, 84] (fun v => β9 = false → v = (Iv el2)),
    Fact.pure [87, 90, 84] (fun v => β9 = false → v = (Bo (icmp .eql el4 el2))),
    Fact.pure [84, 91] (fun v => v = (Bo β10))]) mixed (by kernel_rfl) (by intro _ _ d _ _ h; cases d <;> exact h) ?_
      obtain ⟨w56, hw58⟩ : ∃ w', w' = World.drew w36 := ⟨_, rfl⟩; rw [← hw58]; have E57 : Ext w36 w56 := by rw [hw58]; exact Ext.draw _
      clear hw58
      have X59 := Ext.gr X39 E57
      refine RW_d _ rfl (fun v => by dsimp only [List.set]; try rfl) (fun u hu hF => ?_) (fun v60 => ?_)
      · clear hF
        refine doesG_un rfl ?_
        refine (does_move (u := (.slice p52 el1.length q53)) (ev rfl)).mono ?_; rintro _ _ ⟨rfl, rfl⟩
        exact ⟨rfl, Ext.refl _⟩
      refine RW_d _ rfl (fun v => by dsimp only [List.set]; try rfl) (fun u hu hF => ?_) (fun v61 => ?_)
      · have h36_ : v60 = (.slice p52 el1.length q53) := hF.1
        clear hF
        refine doesG_un rfl ?_
        obtain rfl := h36_
        refine (does_len_slice Try.underlying27 (ev rfl)).mono ?_; rintro _ _ ⟨rfl, rfl⟩
        exact ⟨rfl, Ext.refl _⟩
      refine RW_d _ rfl (fun v => by dsimp only [List.set]; try rfl) (fun u hu hF => ?_) (fun v62 => ?_)
      · have h37_ : v61 = (Iv (el1.length : Int)) := hF.1
        clear hF
        refine doesG_un rfl ?_
        obtain rfl := h37_
        refine (does_icmp (p := (el1.length : Int)) (q := 3) (.inr (.inl rfl)) (ev rfl) (ev rfl)).mono ?_; rintro _ _ ⟨rfl, rfl⟩
        exact ⟨(by first | rfl | (show _ = _; simp only [hβ3]; done) | (show _ = _; simp only [hβ3]; rfl)), Ext.refl _⟩
      refine RW_d _ rfl (fun v => by dsimp only [List.set]; try rfl) (fun u hu hF => ?_) (fun v63 => ?_)
      · have h38_ : v62 = (Bo β3) := hF.1
        clear hF
        refine doesG_un rfl ?_
        obtain rfl := h38_
        refine (does_move (u := (Bo β3)) (ev rfl)).mono ?_; rintro _ _ ⟨rfl, rfl⟩
        exact ⟨rfl, Ext.refl _⟩
      refine RW_d _ rfl (fun v => by dsimp only [List.set]; try rfl) (fun u hu hF => ?_) (fun v64 => ?_)
      · have h39_ : v63 = (Bo β3) := hF.1
        clear hF
        obtain rfl := h39_
        refine doesG_g (b := β3) rfl (yld rfl rfl) (fun hg1 => ?_) (fun hc => ⟨fun hg1 => absurd hg1 hc, Ext.refl _⟩)
        refine (does_move (u := (.slice p52 el1.length q53)) (ev rfl)).mono ?_; rintro _ _ ⟨rfl, rfl⟩
        exact ⟨fun _ => rfl, Ext.refl _⟩
      refine RW_d _ rfl (fun v => by dsimp only [List.set]; try rfl) (fun u hu hF => ?_) (fun v65 => ?_)
      · have h40_ : β3 = false → v64 = (.slice p52 el1.length q53) := hF.1
        have h39_ : v63 = (Bo β3) := hF.2.1
        clear hF
        obtain rfl := h39_
        refine doesG_g (b := β3) rfl (yld rfl rfl) (fun hg1 => ?_) (fun hc => ⟨fun hg1 => absurd hg1 hc, Ext.refl _⟩)
        obtain rfl := h40_ hg1
        refine (does_indexSl (R := RI) (i := 0) (xs := el1) (e := el2) Try.underlying27 Try.sizeOf2 (ev rfl) (ev rfl) (Sl.ext (Sl.ext hs54 RI.mono E57) RI.mono hu) (by first | omega | (simp only [hβ3, icmp, Bool.or_eq_false_iff, Bool.not_eq_false', Bool.not_eq_true', decide_eq_true_eq, decide_eq_false_iff_not, bne_eq_false_iff_eq] at hg1; omega) | (simp only [hβ3, icmp, Bool.or_eq_false_iff, Bool.not_eq_false', Bool.not_eq_true', decide_eq_true_eq, decide_eq_false_iff_not, bne_eq_false_iff_eq] at hg1 hg2; omega)) (hel2 (by first | omega | (simp only [hβ3, icmp, Bool.or_eq_false_iff, Bool.not_eq_false', Bool.not_eq_true', bne_eq_false_iff_eq] at hg1; omega)))).mono ?_; rintro v u' ⟨b, of, cs, hv, hc, hR, hu'⟩; subst hu'
        exact ⟨fun _ => ⟨b, of, cs, hv, hc, hR⟩, Ext.refl _⟩
      refine RW_d _ rfl (fun v => by dsimp only [List.set]; try rfl) (fun u hu hF => ?_) (fun v66 => ?_)
      · have h41_ : β3 = false → PtrR RI u v65 el2 := hF.1
        have h39_ : v63 = (Bo β3) := hF.2.1
        clear hF
        obtain rfl := h39_
        refine doesG_g (b := β3) rfl (yld rfl rfl) (fun hg1 => ?_) (fun hc => ⟨fun hg1 => absurd hg1 hc, Ext.refl _⟩)
        obtain ⟨b41_, o41_, _, rfl, hc41_, rfl⟩ := h41_ hg1
        refine (does_load (u := (Iv el2)) (ev rfl) Try.isAgg2 (Cells.at hc41_ 0 rfl)).mono ?_; rintro _ _ ⟨rfl, rfl⟩
        exact ⟨fun _ => rfl, Ext.refl _⟩
      refine RW_d _ rfl (fun v => by dsimp only [List.set]; try rfl) (fun u hu hF => ?_) (fun v67 => ?_)
      · have h39_ : v63 = (Bo β3) := hF.1
        clear hF
        obtain rfl := h39_
        refine doesG_g (b := β3) rfl (yld rfl rfl) (fun hg1 => ?_) (fun hc => ⟨fun hg1 => absurd hg1 hc, Ext.refl _⟩)
        refine (does_move (u := (Iv (A_m.places.length : Int))) (ev rfl)).mono ?_; rintro _ _ ⟨rfl, rfl⟩
        exact ⟨fun _ => rfl, Ext.refl _⟩
      refine RW_d _ rfl (fun v => by dsimp only [List.set]; try rfl) (fun u hu hF => ?_) (fun v68 => ?_)
      · have h43_ : β3 = false → v67 = (Iv (A_m.places.length : Int)) := hF.1
        have h39_ : v63 = (Bo β3) := hF.2.1
        clear hF
        obtain rfl := h39_
        refine doesG_g (b := β3) rfl (yld rfl rfl) (fun hg1 => ?_) (fun hc => ⟨fun hg1 => absurd hg1 hc, Ext.refl _⟩)
        obtain rfl := h43_ hg1
        refine (does_iarith (p := (A_m.places.length : Int)) (q := 1) (r := IntKind.i64.wrap ((A_m.places.length : Int) - 1)) (ev rfl) (ev rfl) (.inr (.inl ⟨rfl, rfl⟩))).mono ?_; rintro _ _ ⟨rfl, rfl⟩
        exact ⟨fun _ => rfl, Ext.refl _⟩
      refine RW_d _ rfl (fun v => by dsimp only [List.set]; try rfl) (fun u hu hF => ?_) (fun v69 => ?_)
      · have h42_ : β3 = false → v66 = (Iv el2) := hF.1
        have h44_ : β3 = false → v68 = (Iv (IntKind.i64.wrap ((A_m.places.length : Int) - 1))) := hF.2.1
        have h39_ : v63 = (Bo β3) := hF.2.2.1
        clear hF
        obtain rfl := h39_
        refine doesG_g (b := β3) rfl (yld rfl rfl) (fun hg1 => ?_) (fun hc => ⟨fun hg1 => absurd hg1 hc, Ext.refl _⟩)
        obtain rfl := h42_ hg1
        obtain rfl := h44_ hg1
        refine (does_call (args := #[(Iv el2), (Iv 0), (Iv (IntKind.i64.wrap ((A_m.places.length : Int) - 1)))]) cal43 (evs rfl) (c_spec_l00In el2 0 (IntKind.i64.wrap ((A_m.places.length : Int) - 1)) _)).mono ?_; rintro v u' ⟨hx, hv⟩
        exact ⟨fun _ => hv.trans (by simp only [hβ4]), hx⟩
      refine RW_d _ rfl (fun v => by dsimp only [List.set]; try rfl) (fun u hu hF => ?_) (fun v70 => ?_)
      · have h45_ : β3 = false → v69 = (Bo β4) := hF.1
        have h39_ : v63 = (Bo β3) := hF.2.1
        clear hF
        obtain rfl := h39_
        refine doesG_g (b := β3) rfl (yld rfl rfl) (fun hg1 => ?_) (fun hc => ⟨fun hg1 => absurd hg1 hc, Ext.refl _⟩)
        obtain rfl := h45_ hg1
        refine (does_not (ev rfl)).mono ?_; rintro _ _ ⟨rfl, rfl⟩
        exact ⟨fun _ => rfl, Ext.refl _⟩
      refine RW_d _ rfl (fun v => by dsimp only [List.set]; try rfl) (fun u hu hF => ?_) (fun v71 => ?_)
      · have h39_ : v63 = (Bo β3) := hF.1
        have h46_ : β3 = false → v70 = (Bo (!β4)) := hF.2.1
        clear hF
        refine doesG_un rfl ?_
        skip
        obtain rfl := h39_
        refine (does_pick (b := β3) (u := (Bo true)) (v := v70) (ev rfl) (ev rfl) (ev rfl)).mono ?_; rintro _ _ ⟨rfl, rfl⟩; refine ⟨?_, Ext.refl _⟩; skip
        cases hbb : β3
        all_goals first | (show _ = _; simp only [↓reduceIte, Bool.true_and, Bool.false_and, Bool.true_or, Bool.false_or, Bool.false_eq_true]; done) | (have e_ := h46_ hbb; subst e_; show _ = _; simp only [↓reduceIte, Bool.true_and, Bool.false_and, Bool.true_or, Bool.false_or, Bool.false_eq_true]; done) | rfl | (have e_ := h46_ hbb; subst e_; rfl) | (simp [hbb] at h46_ ⊢; first | done | rfl | (subst h46_; rfl) | simp_all) | (simp [hbb] at h46_ ⊢; done)
      refine RW_d _ rfl (fun v => by dsimp only [List.set]; try rfl) (fun u hu hF => ?_) (fun v72 => ?_)
      · have h47_ : v71 = (Bo (β3 || (!β4))) := hF.1
        clear hF
        refine doesG_un rfl ?_
        obtain rfl := h47_
        refine (does_move (u := (Bo (β3 || (!β4)))) (ev rfl)).mono ?_; rintro _ _ ⟨rfl, rfl⟩
        exact ⟨rfl, Ext.refl _⟩
      refine RW_d _ rfl (fun v => by dsimp only [List.set]; try rfl) (fun u hu hF => ?_) (fun v73 => ?_)
      · have h48_ : v72 = (Bo (β3 || (!β4))) := hF.1
        clear hF
        obtain rfl := h48_
        refine doesG_g (b := (β3 || (!β4))) rfl (yld rfl rfl) (fun hg1 => ?_) (fun hc => ⟨fun hg1 => absurd hg1 hc, Ext.refl _⟩)
        refine (does_move (u := (.slice p52 el1.length q53)) (ev rfl)).mono ?_; rintro _ _ ⟨rfl, rfl⟩
        exact ⟨fun _ => rfl, Ext.refl _⟩
      refine RW_d _ rfl (fun v => by dsimp only [List.set]; try rfl) (fun u hu hF => ?_) (fun v74 => ?_)
      · have h49_ : (β3 || (!β4)) = false → v73 = (.slice p52 el1.length q53) := hF.1
        have h48_ : v72 = (Bo (β3 || (!β4))) := hF.2.1
        clear hF
        obtain rfl := h48_
        refine doesG_g (b := (β3 || (!β4))) rfl (yld rfl rfl) (fun hg1 => ?_) (fun hc => ⟨fun hg1 => absurd hg1 hc, Ext.refl _⟩)
        obtain rfl := h49_ hg1
        refine (does_indexSl (R := RI) (i := 1) (xs := el1) (e := el3) Try.underlying27 Try.sizeOf2 (ev rfl) (ev rfl) (Sl.ext (Sl.ext hs54 RI.mono E57) RI.mono hu) (by first | omega | (simp only [hβ3, hβ4, icmp, Bool.or_eq_false_iff, Bool.not_eq_false', Bool.not_eq_true', decide_eq_true_eq, decide_eq_false_iff_not, bne_eq_false_iff_eq] at hg1; omega) | (simp only [hβ3, hβ4, icmp, Bool.or_eq_false_iff, Bool.not_eq_false', Bool.not_eq_true', decide_eq_true_eq, decide_eq_false_iff_not, bne_eq_false_iff_eq] at hg1 hg2; omega)) (hel3 (by first | omega | (simp only [hβ3, hβ4, icmp, Bool.or_eq_false_iff, Bool.not_eq_false', Bool.not_eq_true', bne_eq_false_iff_eq] at hg1; omega)))).mono ?_; rintro v u' ⟨b, of, cs, hv, hc, hR, hu'⟩; subst hu'
        exact ⟨fun _ => ⟨b, of, cs, hv, hc, hR⟩, Ext.refl _⟩
      refine RW_d _ rfl (fun v => by dsimp only [List.set]; try rfl) (fun u hu hF => ?_) (fun v75 => ?_)
      · have h50_ : (β3 || (!β4)) = false → PtrR RI u v74 el3 := hF.1
        have h48_ : v72 = (Bo (β3 || (!β4))) := hF.2.1
        clear hF
        obtain rfl := h48_
        refine doesG_g (b := (β3 || (!β4))) rfl (yld rfl rfl) (fun hg1 => ?_) (fun hc => ⟨fun hg1 => absurd hg1 hc, Ext.refl _⟩)
        obtain ⟨b50_, o50_, _, rfl, hc50_, rfl⟩ := h50_ hg1
        refine (does_load (u := (Iv el3)) (ev rfl) Try.isAgg2 (Cells.at hc50_ 0 rfl)).mono ?_; rintro _ _ ⟨rfl, rfl⟩
        exact ⟨fun _ => rfl, Ext.refl _⟩
      refine RW_d _ rfl (fun v => by dsimp only [List.set]; try rfl) (fun u hu hF => ?_) (fun v76 => ?_)
      · have h48_ : v72 = (Bo (β3 || (!β4))) := hF.1
        clear hF
        obtain rfl := h48_
        refine doesG_g (b := (β3 || (!β4))) rfl (yld rfl rfl) (fun hg1 => ?_) (fun hc => ⟨fun hg1 => absurd hg1 hc, Ext.refl _⟩)
        refine (does_move (u := (Iv (A_m.places.length : Int))) (ev rfl)).mono ?_; rintro _ _ ⟨rfl, rfl⟩
        exact ⟨fun _ => rfl, Ext.refl _⟩
      refine RW_d _ rfl (fun v => by dsimp only [List.set]; try rfl) (fun u hu hF => ?_) (fun v77 => ?_)
      · have h52_ : (β3 || (!β4)) = false → v76 = (Iv (A_m.places.length : Int)) := hF.1
        have h48_ : v72 = (Bo (β3 || (!β4))) := hF.2.1
        clear hF
        obtain rfl := h48_
        refine doesG_g (b := (β3 || (!β4))) rfl (yld rfl rfl) (fun hg1 => ?_) (fun hc => ⟨fun hg1 => absurd hg1 hc, Ext.refl _⟩)
        obtain rfl := h52_ hg1
        refine (does_iarith (p := (A_m.places.length : Int)) (q := 1) (r := IntKind.i64.wrap ((A_m.places.length : Int) - 1)) (ev rfl) (ev rfl) (.inr (.inl ⟨rfl, rfl⟩))).mono ?_; rintro _ _ ⟨rfl, rfl⟩
        exact ⟨fun _ => rfl, Ext.refl _⟩
      refine RW_d _ rfl (fun v => by dsimp only [List.set]; try rfl) (fun u hu hF => ?_) (fun v78 => ?_)
      · have h51_ : (β3 || (!β4)) = false → v75 = (Iv el3) := hF.1
        have h53_ : (β3 || (!β4)) = false → v77 = (Iv (IntKind.i64.wrap ((A_m.places.length : Int) - 1))) := hF.2.1
        have h48_ : v72 = (Bo (β3 || (!β4))) := hF.2.2.1
        clear hF
        obtain rfl := h48_
        refine doesG_g (b := (β3 || (!β4))) rfl (yld rfl rfl) (fun hg1 => ?_) (fun hc => ⟨fun hg1 => absurd hg1 hc, Ext.refl _⟩)
        obtain rfl := h51_ hg1
        obtain rfl := h53_ hg1
        refine (does_call (args := #[(Iv el3), (Iv 0), (Iv (IntKind.i64.wrap ((A_m.places.length : Int) - 1)))]) cal43 (evs rfl) (c_spec_l00In el3 0 (IntKind.i64.wrap ((A_m.places.length : Int) - 1)) _)).mono ?_; rintro v u' ⟨hx, hv⟩
        exact ⟨fun _ => hv.trans (by simp only [hβ5]), hx⟩
      refine RW_d _ rfl (fun v => by dsimp only [List.set]; try rfl) (fun u hu hF => ?_) (fun v79 => ?_)
      · have h54_ : (β3 || (!β4)) = false → v78 = (Bo β5) := hF.1
        have h48_ : v72 = (Bo (β3 || (!β4))) := hF.2.1
        clear hF
        obtain rfl := h48_
        refine doesG_g (b := (β3 || (!β4))) rfl (yld rfl rfl) (fun hg1 => ?_) (fun hc => ⟨fun hg1 => absurd hg1 hc, Ext.refl _⟩)
        obtain rfl := h54_ hg1
        refine (does_not (ev rfl)).mono ?_; rintro _ _ ⟨rfl, rfl⟩
        exact ⟨fun _ => rfl, Ext.refl _⟩
      refine RW_d _ rfl (fun v => by dsimp only [List.set]; try rfl) (fun u hu hF => ?_) (fun v80 => ?_)
      · have h48_ : v72 = (Bo (β3 || (!β4))) := hF.1
        have h55_ : (β3 || (!β4)) = false → v79 = (Bo (!β5)) := hF.2.1
        clear hF
        refine doesG_un rfl ?_
        skip
        obtain rfl := h48_
        refine (does_pick (b := (β3 || (!β4))) (u := (Bo true)) (v := v79) (ev rfl) (ev rfl) (ev rfl)).mono ?_; rintro _ _ ⟨rfl, rfl⟩; refine ⟨?_, Ext.refl _⟩; skip
        cases hbb : (β3 || (!β4))
        all_goals first | (show _ = _; simp only [↓reduceIte, Bool.true_and, Bool.false_and, Bool.true_or, Bool.false_or, Bool.false_eq_true]; done) | (have e_ := h55_ hbb; subst e_; show _ = _; simp only [↓reduceIte, Bool.true_and, Bool.false_and, Bool.true_or, Bool.false_or, Bool.false_eq_true]; done) | rfl | (have e_ := h55_ hbb; subst e_; rfl) | (simp [hbb] at h55_ ⊢; first | done | rfl | (subst h55_; rfl) | simp_all) | (simp [hbb] at h55_ ⊢; done)
      refine RW_d _ rfl (fun v => by dsimp only [List.set]; try rfl) (fun u hu hF => ?_) (fun v81 => ?_)
      · have h56_ : v80 = (Bo ((β3 || (!β4)) || (!β5))) := hF.1
        clear hF
        refine doesG_un rfl ?_
        obtain rfl := h56_
        refine (does_move (u := (Bo ((β3 || (!β4)) || (!β5)))) (ev rfl)).mono ?_; rintro _ _ ⟨rfl, rfl⟩
        exact ⟨rfl, Ext.refl _⟩
      refine RW_d _ rfl (fun v => by dsimp only [List.set]; try rfl) (fun u hu hF => ?_) (fun v82 => ?_)
      · have h57_ : v81 = (Bo ((β3 || (!β4)) || (!β5))) := hF.1
        clear hF
        obtain rfl := h57_
        refine doesG_g (b := ((β3 || (!β4)) || (!β5))) rfl (yld rfl rfl) (fun hg1 => ?_) (fun hc => ⟨fun hg1 => absurd hg1 hc, Ext.refl _⟩)
        refine (does_move (u := (.slice p52 el1.length q53)) (ev rfl)).mono ?_; rintro _ _ ⟨rfl, rfl⟩
        exact ⟨fun _ => rfl, Ext.refl _⟩
      refine RW_d _ rfl (fun v => by dsimp only [List.set]; try rfl) (fun u hu hF => ?_) (fun v83 => ?_)
      · have h58_ : ((β3 || (!β4)) || (!β5)) = false → v82 = (.slice p52 el1.length q53) := hF.1
        have h57_ : v81 = (Bo ((β3 || (!β4)) || (!β5))) := hF.2.1
        clear hF
        obtain rfl := h57_
        refine doesG_g (b := ((β3 || (!β4)) || (!β5))) rfl (yld rfl rfl) (fun hg1 => ?_) (fun hc => ⟨fun hg1 => absurd hg1 hc, Ext.refl _⟩)
        obtain rfl := h58_ hg1
        refine (does_indexSl (R := RI) (i := 2) (xs := el1) (e := el4) Try.underlying27 Try.sizeOf2 (ev rfl) (ev rfl) (Sl.ext (Sl.ext hs54 RI.mono E57) RI.mono hu) (by first | omega | (simp only [hβ3, hβ4, hβ5, icmp, Bool.or_eq_false_iff, Bool.not_eq_false', Bool.not_eq_true', decide_eq_true_eq, decide_eq_false_iff_not, bne_eq_false_iff_eq] at hg1; omega) | (simp only [hβ3, hβ4, hβ5, icmp, Bool.or_eq_false_iff, Bool.not_eq_false', Bool.not_eq_true', decide_eq_true_eq, decide_eq_false_iff_not, bne_eq_false_iff_eq] at hg1 hg2; omega)) (hel4 (by first | omega | (simp only [hβ3, hβ4, hβ5, icmp, Bool.or_eq_false_iff, Bool.not_eq_false', Bool.not_eq_true', bne_eq_false_iff_eq] at hg1; omega)))).mono ?_; rintro v u' ⟨b, of, cs, hv, hc, hR, hu'⟩; subst hu'
        exact ⟨fun _ => ⟨b, of, cs, hv, hc, hR⟩, Ext.refl _⟩
      refine RW_d _ rfl (fun v => by dsimp only [List.set]; try rfl) (fun u hu hF => ?_) (fun v84 => ?_)
      · have h59_ : ((β3 || (!β4)) || (!β5)) = false → PtrR RI u v83 el4 := hF.1
        have h57_ : v81 = (Bo ((β3 || (!β4)) || (!β5))) := hF.2.1
        clear hF
        obtain rfl := h57_
        refine doesG_g (b := ((β3 || (!β4)) || (!β5))) rfl (yld rfl rfl) (fun hg1 => ?_) (fun hc => ⟨fun hg1 => absurd hg1 hc, Ext.refl _⟩)
        obtain ⟨b59_, o59_, _, rfl, hc59_, rfl⟩ := h59_ hg1
        refine (does_load (u := (Iv el4)) (ev rfl) Try.isAgg2 (Cells.at hc59_ 0 rfl)).mono ?_; rintro _ _ ⟨rfl, rfl⟩
        exact ⟨fun _ => rfl, Ext.refl _⟩
      refine RW_d _ rfl (fun v => by dsimp only [List.set]; try rfl) (fun u hu hF => ?_) (fun v85 => ?_)
      · have h57_ : v81 = (Bo ((β3 || (!β4)) || (!β5))) := hF.1
        clear hF
        obtain rfl := h57_
        refine doesG_g (b := ((β3 || (!β4)) || (!β5))) rfl (yld rfl rfl) (fun hg1 => ?_) (fun hc => ⟨fun hg1 => absurd hg1 hc, Ext.refl _⟩)
        refine (does_move (u := (Iv (A_m.places.length : Int))) (ev rfl)).mono ?_; rintro _ _ ⟨rfl, rfl⟩
        exact ⟨fun _ => rfl, Ext.refl _⟩
      refine RW_d _ rfl (fun v => by dsimp only [List.set]; try rfl) (fun u hu hF => ?_) (fun v86 => ?_)
      · have h61_ : ((β3 || (!β4)) || (!β5)) = false → v85 = (Iv (A_m.places.length : Int)) := hF.1
        have h57_ : v81 = (Bo ((β3 || (!β4)) || (!β5))) := hF.2.1
        clear hF
        obtain rfl := h57_
        refine doesG_g (b := ((β3 || (!β4)) || (!β5))) rfl (yld rfl rfl) (fun hg1 => ?_) (fun hc => ⟨fun hg1 => absurd hg1 hc, Ext.refl _⟩)
        obtain rfl := h61_ hg1
        refine (does_iarith (p := (A_m.places.length : Int)) (q := 1) (r := IntKind.i64.wrap ((A_m.places.length : Int) - 1)) (ev rfl) (ev rfl) (.inr (.inl ⟨rfl, rfl⟩))).mono ?_; rintro _ _ ⟨rfl, rfl⟩
        exact ⟨fun _ => rfl, Ext.refl _⟩
      refine RW_d _ rfl (fun v => by dsimp only [List.set]; try rfl) (fun u hu hF => ?_) (fun v87 => ?_)
      · have h60_ : ((β3 || (!β4)) || (!β5)) = false → v84 = (Iv el4) := hF.1
        have h62_ : ((β3 || (!β4)) || (!β5)) = false → v86 = (Iv (IntKind.i64.wrap ((A_m.places.length : Int) - 1))) := hF.2.1
        have h57_ : v81 = (Bo ((β3 || (!β4)) || (!β5))) := hF.2.2.1
        clear hF
        obtain rfl := h57_
        refine doesG_g (b := ((β3 || (!β4)) || (!β5))) rfl (yld rfl rfl) (fun hg1 => ?_) (fun hc => ⟨fun hg1 => absurd hg1 hc, Ext.refl _⟩)
        obtain rfl := h60_ hg1
        obtain rfl := h62_ hg1
        refine (does_call (args := #[(Iv el4), (Iv 0), (Iv (IntKind.i64.wrap ((A_m.places.length : Int) - 1)))]) cal43 (evs rfl) (c_spec_l00In el4 0 (IntKind.i64.wrap ((A_m.places.length : Int) - 1)) _)).mono ?_; rintro v u' ⟨hx, hv⟩
        exact ⟨fun _ => hv.trans (by simp only [hβ6]), hx⟩
      refine RW_d _ rfl (fun v => by dsimp only [List.set]; try rfl) (fun u hu hF => ?_) (fun v88 => ?_)
      · have h63_ : ((β3 || (!β4)) || (!β5)) = false → v87 = (Bo β6) := hF.1
        have h57_ : v81 = (Bo ((β3 || (!β4)) || (!β5))) := hF.2.1
        clear hF
        obtain rfl := h57_
        refine doesG_g (b := ((β3 || (!β4)) || (!β5))) rfl (yld rfl rfl) (fun hg1 => ?_) (fun hc => ⟨fun hg1 => absurd hg1 hc, Ext.refl _⟩)
        obtain rfl := h63_ hg1
        refine (does_not (ev rfl)).mono ?_; rintro _ _ ⟨rfl, rfl⟩
        exact ⟨fun _ => rfl, Ext.refl _⟩
      refine RW_d _ rfl (fun v => by dsimp only [List.set]; try rfl) (fun u hu hF => ?_) (fun v89 => ?_)
      · have h57_ : v81 = (Bo ((β3 || (!β4)) || (!β5))) := hF.1
        have h64_ : ((β3 || (!β4)) || (!β5)) = false → v88 = (Bo (!β6)) := hF.2.1
        clear hF
        refine doesG_un rfl ?_
        skip
        obtain rfl := h57_
        refine (does_pick (b := ((β3 || (!β4)) || (!β5))) (u := (Bo true)) (v := v88) (ev rfl) (ev rfl) (ev rfl)).mono ?_; rintro _ _ ⟨rfl, rfl⟩; refine ⟨?_, Ext.refl _⟩; rw [hβ7]; skip
        cases hbb : ((β3 || (!β4)) || (!β5))
        all_goals first | (show _ = _; simp only [↓reduceIte, Bool.true_and, Bool.false_and, Bool.true_or, Bool.false_or, Bool.false_eq_true]; done) | (have e_ := h64_ hbb; subst e_; show _ = _; simp only [↓reduceIte, Bool.true_and, Bool.false_and, Bool.true_or, Bool.false_or, Bool.false_eq_true]; done) | rfl | (have e_ := h64_ hbb; subst e_; rfl) | (simp [hbb] at h64_ ⊢; first | done | rfl | (subst h64_; rfl) | simp_all) | (simp [hbb] at h64_ ⊢; done)
      refine RW_d _ rfl (fun v => by dsimp only [List.set]; try rfl) (fun u hu hF => ?_) (fun v90 => ?_)
      · have h65_ : v89 = (Bo β7) := hF.1
        clear hF
        refine doesG_un rfl ?_
        obtain rfl := h65_
        refine (does_move (u := (Bo β7)) (ev rfl)).mono ?_; rintro _ _ ⟨rfl, rfl⟩
        exact ⟨rfl, Ext.refl _⟩
      refine RW_d _ rfl (fun v => by dsimp only [List.set]; try rfl) (fun u hu hF => ?_) (fun v91 => ?_)
      · have h66_ : v90 = (Bo β7) := hF.1
        clear hF
        obtain rfl := h66_
        refine doesG_g (b := β7) rfl (yld rfl rfl) (fun hg1 => ?_) (fun hc => ⟨fun hg1 => absurd hg1 hc, Ext.refl _⟩)
        refine (does_move (u := (.slice p52 el1.length q53)) (ev rfl)).mono ?_; rintro _ _ ⟨rfl, rfl⟩
        exact ⟨fun _ => rfl, Ext.refl _⟩
      refine RW_d _ rfl (fun v => by dsimp only [List.set]; try rfl) (fun u hu hF => ?_) (fun v92 => ?_)
      · have h67_ : β7 = false → v91 = (.slice p52 el1.length q53) := hF.1
        have h66_ : v90 = (Bo β7) := hF.2.1
        clear hF
        obtain rfl := h66_
        refine doesG_g (b := β7) rfl (yld rfl rfl) (fun hg1 => ?_) (fun hc => ⟨fun hg1 => absurd hg1 hc, Ext.refl _⟩)
        obtain rfl := h67_ hg1
        refine (does_indexSl (R := RI) (i := 0) (xs := el1) (e := el2) Try.underlying27 Try.sizeOf2 (ev rfl) (ev rfl) (Sl.ext (Sl.ext hs54 RI.mono E57) RI.mono hu) (by first | omega | (simp only [hβ3, hβ4, hβ5, hβ6, hβ7, icmp, Bool.or_eq_false_iff, Bool.not_eq_false', Bool.not_eq_true', decide_eq_true_eq, decide_eq_false_iff_not, bne_eq_false_iff_eq] at hg1; omega) | (simp only [hβ3, hβ4, hβ5, hβ6, hβ7, icmp, Bool.or_eq_false_iff, Bool.not_eq_false', Bool.not_eq_true', decide_eq_true_eq, decide_eq_false_iff_not, bne_eq_false_iff_eq] at hg1 hg2; omega)) (hel2 (by first | omega | (simp only [hβ3, hβ4, hβ5, hβ6, hβ7, icmp, Bool.or_eq_false_iff, Bool.not_eq_false', Bool.not_eq_true', bne_eq_false_iff_eq] at hg1; omega)))).mono ?_; rintro v u' ⟨b, of, cs, hv, hc, hR, hu'⟩; subst hu'
        exact ⟨fun _ => ⟨b, of, cs, hv, hc, hR⟩, Ext.refl _⟩
      refine RW_d _ rfl (fun v => by dsimp only [List.set]; try rfl) (fun u hu hF => ?_) (fun v93 => ?_)
      · have h68_ : β7 = false → PtrR RI u v92 el2 := hF.1
        have h66_ : v90 = (Bo β7) := hF.2.1
        clear hF
        obtain rfl := h66_
        refine doesG_g (b := β7) rfl (yld rfl rfl) (fun hg1 => ?_) (fun hc => ⟨fun hg1 => absurd hg1 hc, Ext.refl _⟩)
        obtain ⟨b68_, o68_, _, rfl, hc68_, rfl⟩ := h68_ hg1
        refine (does_load (u := (Iv el2)) (ev rfl) Try.isAgg2 (Cells.at hc68_ 0 rfl)).mono ?_; rintro _ _ ⟨rfl, rfl⟩
        exact ⟨fun _ => rfl, Ext.refl _⟩
      refine RW_d _ rfl (fun v => by dsimp only [List.set]; try rfl) (fun u hu hF => ?_) (fun v94 => ?_)
      · have h66_ : v90 = (Bo β7) := hF.1
        clear hF
        obtain rfl := h66_
        refine doesG_g (b := β7) rfl (yld rfl rfl) (fun hg1 => ?_) (fun hc => ⟨fun hg1 => absurd hg1 hc, Ext.refl _⟩)
        refine (does_move (u := (.slice p52 el1.length q53)) (ev rfl)).mono ?_; rintro _ _ ⟨rfl, rfl⟩
        exact ⟨fun _ => rfl, Ext.refl _⟩
      refine RW_d _ rfl (fun v => by dsimp only [List.set]; try rfl) (fun u hu hF => ?_) (fun v95 => ?_)
      · have h70_ : β7 = false → v94 = (.slice p52 el1.length q53) := hF.1
        have h66_ : v90 = (Bo β7) := hF.2.1
        clear hF
        obtain rfl := h66_
        refine doesG_g (b := β7) rfl (yld rfl rfl) (fun hg1 => ?_) (fun hc => ⟨fun hg1 => absurd hg1 hc, Ext.refl _⟩)
        obtain rfl := h70_ hg1
        refine (does_indexSl (R := RI) (i := 1) (xs := el1) (e := el3) Try.underlying27 Try.sizeOf2 (ev rfl) (ev rfl) (Sl.ext (Sl.ext hs54 RI.mono E57) RI.mono hu) (by first | omega | (simp only [hβ3, hβ4, hβ5, hβ6, hβ7, icmp, Bool.or_eq_false_iff, Bool.not_eq_false', Bool.not_eq_true', decide_eq_true_eq, decide_eq_false_iff_not, bne_eq_false_iff_eq] at hg1; omega) | (simp only [hβ3, hβ4, hβ5, hβ6, hβ7, icmp, Bool.or_eq_false_iff, Bool.not_eq_false', Bool.not_eq_true', decide_eq_true_eq, decide_eq_false_iff_not, bne_eq_false_iff_eq] at hg1 hg2; omega)) (hel3 (by first | omega | (simp only [hβ3, hβ4, hβ5, hβ6, hβ7, icmp, Bool.or_eq_false_iff, Bool.not_eq_false', Bool.not_eq_true', bne_eq_false_iff_eq] at hg1; omega)))).mono ?_; rintro v u' ⟨b, of, cs, hv, hc, hR, hu'⟩; subst hu'
        exact ⟨fun _ => ⟨b, of, cs, hv, hc, hR⟩, Ext.refl _⟩
      refine RW_d _ rfl (fun v => by dsimp only [List.set]; try rfl) (fun u hu hF => ?_) (fun v96 => ?_)
      · have h71_ : β7 = false → PtrR RI u v95 el3 := hF.1
        have h66_ : v90 = (Bo β7) := hF.2.1
        clear hF
        obtain rfl := h66_
        refine doesG_g (b := β7) rfl (yld rfl rfl) (fun hg1 => ?_) (fun hc => ⟨fun hg1 => absurd hg1 hc, Ext.refl _⟩)
        obtain ⟨b71_, o71_, _, rfl, hc71_, rfl⟩ := h71_ hg1
        refine (does_load (u := (Iv el3)) (ev rfl) Try.isAgg2 (Cells.at hc71_ 0 rfl)).mono ?_; rintro _ _ ⟨rfl, rfl⟩
        exact ⟨fun _ => rfl, Ext.refl _⟩
      refine RW_d _ rfl (fun v => by dsimp only [List.set]; try rfl) (fun u hu hF => ?_) (fun v97 => ?_)
      · have h69_ : β7 = false → v93 = (Iv el2) := hF.1
        have h72_ : β7 = false → v96 = (Iv el3) := hF.2.1
        have h66_ : v90 = (Bo β7) := hF.2.2.1
        clear hF
        obtain rfl := h66_
        refine doesG_g (b := β7) rfl (yld rfl rfl) (fun hg1 => ?_) (fun hc => ⟨fun hg1 => absurd hg1 hc, Ext.refl _⟩)
        obtain rfl := h69_ hg1
        obtain rfl := h72_ hg1
        refine (does_icmp (p := el2) (q := el3) (.inl rfl) (ev rfl) (ev rfl)).mono ?_; rintro _ _ ⟨rfl, rfl⟩
        exact ⟨fun _ => rfl, Ext.refl _⟩
      refine RW_d _ rfl (fun v => by dsimp only [List.set]; try rfl) (fun u hu hF => ?_) (fun v98 => ?_)
      · have h66_ : v90 = (Bo β7) := hF.1
        have h73_ : β7 = false → v97 = (Bo (icmp .eql el2 el3)) := hF.2.1
        clear hF
        refine doesG_un rfl ?_
        skip
        obtain rfl := h66_
        refine (does_pick (b := β7) (u := (Bo true)) (v := v97) (ev rfl) (ev rfl) (ev rfl)).mono ?_; rintro _ _ ⟨rfl, rfl⟩; refine ⟨?_, Ext.refl _⟩; rw [hβ8]; skip
        cases hbb : β7
        all_goals first | (show _ = _; simp only [↓reduceIte, Bool.true_and, Bool.false_and, Bool.true_or, Bool.false_or, Bool.false_eq_true]; done) | (have e_ := h73_ hbb; subst e_; show _ = _; simp only [↓reduceIte, Bool.true_and, Bool.false_and, Bool.true_or, Bool.false_or, Bool.false_eq_true]; done) | rfl | (have e_ := h73_ hbb; subst e_; rfl) | (simp [hbb] at h73_ ⊢; first | done | rfl | (subst h73_; rfl) | simp_all) | (simp [hbb] at h73_ ⊢; done)
      refine RW_d _ rfl (fun v => by dsimp only [List.set]; try rfl) (fun u hu hF => ?_) (fun v99 => ?_)
      · have h74_ : v98 = (Bo β8) := hF.1
        clear hF
        refine doesG_un rfl ?_
        obtain rfl := h74_
        refine (does_move (u := (Bo β8)) (ev rfl)).mono ?_; rintro _ _ ⟨rfl, rfl⟩
        exact ⟨rfl, Ext.refl _⟩
      refine RW_d _ rfl (fun v => by dsimp only [List.set]; try rfl) (fun u hu hF => ?_) (fun v100 => ?_)
      · have h75_ : v99 = (Bo β8) := hF.1
        clear hF
        obtain rfl := h75_
        refine doesG_g (b := β8) rfl (yld rfl rfl) (fun hg1 => ?_) (fun hc => ⟨fun hg1 => absurd hg1 hc, Ext.refl _⟩)
        refine (does_move (u := (.slice p52 el1.length q53)) (ev rfl)).mono ?_; rintro _ _ ⟨rfl, rfl⟩
        exact ⟨fun _ => rfl, Ext.refl _⟩
      refine RW_d _ rfl (fun v => by dsimp only [List.set]; try rfl) (fun u hu hF => ?_) (fun v101 => ?_)
      · have h76_ : β8 = false → v100 = (.slice p52 el1.length q53) := hF.1
        have h75_ : v99 = (Bo β8) := hF.2.1
        clear hF
        obtain rfl := h75_
        refine doesG_g (b := β8) rfl (yld rfl rfl) (fun hg1 => ?_) (fun hc => ⟨fun hg1 => absurd hg1 hc, Ext.refl _⟩)
        obtain rfl := h76_ hg1
        refine (does_indexSl (R := RI) (i := 1) (xs := el1) (e := el3) Try.underlying27 Try.sizeOf2 (ev rfl) (ev rfl) (Sl.ext (Sl.ext hs54 RI.mono E57) RI.mono hu) (by first | omega | (simp only [hβ3, hβ4, hβ5, hβ6, hβ7, hβ8, icmp, Bool.or_eq_false_iff, Bool.not_eq_false', Bool.not_eq_true', decide_eq_true_eq, decide_eq_false_iff_not, bne_eq_false_iff_eq] at hg1; omega) | (simp only [hβ3, hβ4, hβ5, hβ6, hβ7, hβ8, icmp, Bool.or_eq_false_iff, Bool.not_eq_false', Bool.not_eq_true', decide_eq_true_eq, decide_eq_false_iff_not, bne_eq_false_iff_eq] at hg1 hg2; omega)) (hel3 (by first | omega | (simp only [hβ3, hβ4, hβ5, hβ6, hβ7, hβ8, icmp, Bool.or_eq_false_iff, Bool.not_eq_false', Bool.not_eq_true', bne_eq_false_iff_eq] at hg1; omega)))).mono ?_; rintro v u' ⟨b, of, cs, hv, hc, hR, hu'⟩; subst hu'
        exact ⟨fun _ => ⟨b, of, cs, hv, hc, hR⟩, Ext.refl _⟩
      refine RW_d _ rfl (fun v => by dsimp only [List.set]; try rfl) (fun u hu hF => ?_) (fun v102 => ?_)
      · have h77_ : β8 = false → PtrR RI u v101 el3 := hF.1
        have h75_ : v99 = (Bo β8) := hF.2.1
        clear hF
        obtain rfl := h75_
        refine doesG_g (b := β8) rfl (yld rfl rfl) (fun hg1 => ?_) (fun hc => ⟨fun hg1 => absurd hg1 hc, Ext.refl _⟩)
        obtain ⟨b77_, o77_, _, rfl, hc77_, rfl⟩ := h77_ hg1
        refine (does_load (u := (Iv el3)) (ev rfl) Try.isAgg2 (Cells.at hc77_ 0 rfl)).mono ?_; rintro _ _ ⟨rfl, rfl⟩
        exact ⟨fun _ => rfl, Ext.refl _⟩
      refine RW_d _ rfl (fun v => by dsimp only [List.set]; try rfl) (fun u hu hF => ?_) (fun v103 => ?_)
      · have h75_ : v99 = (Bo β8) := hF.1
        clear hF
        obtain rfl := h75_
        refine doesG_g (b := β8) rfl (yld rfl rfl) (fun hg1 => ?_) (fun hc => ⟨fun hg1 => absurd hg1 hc, Ext.refl _⟩)
        refine (does_move (u := (.slice p52 el1.length q53)) (ev rfl)).mono ?_; rintro _ _ ⟨rfl, rfl⟩
        exact ⟨fun _ => rfl, Ext.refl _⟩
      refine RW_d _ rfl (fun v => by dsimp only [List.set]; try rfl) (fun u hu hF => ?_) (fun v104 => ?_)
      · have h79_ : β8 = false → v103 = (.slice p52 el1.length q53) := hF.1
        have h75_ : v99 = (Bo β8) := hF.2.1
        clear hF
        obtain rfl := h75_
        refine doesG_g (b := β8) rfl (yld rfl rfl) (fun hg1 => ?_) (fun hc => ⟨fun hg1 => absurd hg1 hc, Ext.refl _⟩)
        obtain rfl := h79_ hg1
        refine (does_indexSl (R := RI) (i := 2) (xs := el1) (e := el4) Try.underlying27 Try.sizeOf2 (ev rfl) (ev rfl) (Sl.ext (Sl.ext hs54 RI.mono E57) RI.mono hu) (by first | omega | (simp only [hβ3, hβ4, hβ5, hβ6, hβ7, hβ8, icmp, Bool.or_eq_false_iff, Bool.not_eq_false', Bool.not_eq_true', decide_eq_true_eq, decide_eq_false_iff_not, bne_eq_false_iff_eq] at hg1; omega) | (simp only [hβ3, hβ4, hβ5, hβ6, hβ7, hβ8, icmp, Bool.or_eq_false_iff, Bool.not_eq_false', Bool.not_eq_true', decide_eq_true_eq, decide_eq_false_iff_not, bne_eq_false_iff_eq] at hg1 hg2; omega)) (hel4 (by first | omega | (simp only [hβ3, hβ4, hβ5, hβ6, hβ7, hβ8, icmp, Bool.or_eq_false_iff, Bool.not_eq_false', Bool.not_eq_true', bne_eq_false_iff_eq] at hg1; omega)))).mono ?_; rintro v u' ⟨b, of, cs, hv, hc, hR, hu'⟩; subst hu'
        exact ⟨fun _ => ⟨b, of, cs, hv, hc, hR⟩, Ext.refl _⟩
      refine RW_d _ rfl (fun v => by dsimp only [List.set]; try rfl) (fun u hu hF => ?_) (fun v105 => ?_)
      · have h80_ : β8 = false → PtrR RI u v104 el4 := hF.1
        have h75_ : v99 = (Bo β8) := hF.2.1
        clear hF
        obtain rfl := h75_
        refine doesG_g (b := β8) rfl (yld rfl rfl) (fun hg1 => ?_) (fun hc => ⟨fun hg1 => absurd hg1 hc, Ext.refl _⟩)
        obtain ⟨b80_, o80_, _, rfl, hc80_, rfl⟩ := h80_ hg1
        refine (does_load (u := (Iv el4)) (ev rfl) Try.isAgg2 (Cells.at hc80_ 0 rfl)).mono ?_; rintro _ _ ⟨rfl, rfl⟩
        exact ⟨fun _ => rfl, Ext.refl _⟩
      refine RW_d _ rfl (fun v => by dsimp only [List.set]; try rfl) (fun u hu hF => ?_) (fun v106 => ?_)
      · have h78_ : β8 = false → v102 = (Iv el3) := hF.1
        have h81_ : β8 = false → v105 = (Iv el4) := hF.2.1
        have h75_ : v99 = (Bo β8) := hF.2.2.1
        clear hF
        obtain rfl := h75_
        refine doesG_g (b := β8) rfl (yld rfl rfl) (fun hg1 => ?_) (fun hc => ⟨fun hg1 => absurd hg1 hc, Ext.refl _⟩)
        obtain rfl := h78_ hg1
        obtain rfl := h81_ hg1
        refine (does_icmp (p := el3) (q := el4) (.inl rfl) (ev rfl) (ev rfl)).mono ?_; rintro _ _ ⟨rfl, rfl⟩
        exact ⟨fun _ => rfl, Ext.refl _⟩
      refine RW_d _ rfl (fun v => by dsimp only [List.set]; try rfl) (fun u hu hF => ?_) (fun v107 => ?_)
      · have h75_ : v99 = (Bo β8) := hF.1
        have h82_ : β8 = false → v106 = (Bo (icmp .eql el3 el4)) := hF.2.1
        clear hF
        refine doesG_un rfl ?_
        skip
        obtain rfl := h75_
        refine (does_pick (b := β8) (u := (Bo true)) (v := v106) (ev rfl) (ev rfl) (ev rfl)).mono ?_; rintro _ _ ⟨rfl, rfl⟩; refine ⟨?_, Ext.refl _⟩; rw [hβ9]; skip
        cases hbb : β8
        all_goals first | (show _ = _; simp only [↓reduceIte, Bool.true_and, Bool.false_and, Bool.true_or, Bool.false_or, Bool.false_eq_true]; done) | (have e_ := h82_ hbb; subst e_; show _ = _; simp only [↓reduceIte, Bool.true_and, Bool.false_and, Bool.true_or, Bool.false_or, Bool.false_eq_true]; done) | rfl | (have e_ := h82_ hbb; subst e_; rfl) | (simp [hbb] at h82_ ⊢; first | done | rfl | (subst h82_; rfl) | simp_all) | (simp [hbb] at h82_ ⊢; done)
      refine RW_d _ rfl (fun v => by dsimp only [List.set]; try rfl) (fun u hu hF => ?_) (fun v108 => ?_)
      · have h83_ : v107 = (Bo β9) := hF.1
        clear hF
        refine doesG_un rfl ?_
        obtain rfl := h83_
        refine (does_move (u := (Bo β9)) (ev rfl)).mono ?_; rintro _ _ ⟨rfl, rfl⟩
        exact ⟨rfl, Ext.refl _⟩
      refine RW_d _ rfl (fun v => by dsimp only [List.set]; try rfl) (fun u hu hF => ?_) (fun v109 => ?_)
      · have h84_ : v108 = (Bo β9) := hF.1
        clear hF
        obtain rfl := h84_
        refine doesG_g (b := β9) rfl (yld rfl rfl) (fun hg1 => ?_) (fun hc => ⟨fun hg1 => absurd hg1 hc, Ext.refl _⟩)
        refine (does_move (u := (.slice p52 el1.length q53)) (ev rfl)).mono ?_; rintro _ _ ⟨rfl, rfl⟩
        exact ⟨fun _ => rfl, Ext.refl _⟩
      refine RW_d _ rfl (fun v => by dsimp only [List.set]; try rfl) (fun u hu hF => ?_) (fun v110 => ?_)
      · have h85_ : β9 = false → v109 = (.slice p52 el1.length q53) := hF.1
        have h84_ : v108 = (Bo β9) := hF.2.1
        clear hF
        obtain rfl := h84_
        refine doesG_g (b := β9) rfl (yld rfl rfl) (fun hg1 => ?_) (fun hc => ⟨fun hg1 => absurd hg1 hc, Ext.refl _⟩)
        obtain rfl := h85_ hg1
        refine (does_indexSl (R := RI) (i := 2) (xs := el1) (e := el4) Try.underlying27 Try.sizeOf2 (ev rfl) (ev rfl) (Sl.ext (Sl.ext hs54 RI.mono E57) RI.mono hu) (by first | omega | (simp only [hβ3, hβ4, hβ5, hβ6, hβ7, hβ8, hβ9, icmp, Bool.or_eq_false_iff, Bool.not_eq_false', Bool.not_eq_true', decide_eq_true_eq, decide_eq_false_iff_not, bne_eq_false_iff_eq] at hg1; omega) | (simp only [hβ3, hβ4, hβ5, hβ6, hβ7, hβ8, hβ9, icmp, Bool.or_eq_false_iff, Bool.not_eq_false', Bool.not_eq_true', decide_eq_true_eq, decide_eq_false_iff_not, bne_eq_false_iff_eq] at hg1 hg2; omega)) (hel4 (by first | omega | (simp only [hβ3, hβ4, hβ5, hβ6, hβ7, hβ8, hβ9, icmp, Bool.or_eq_false_iff, Bool.not_eq_false', Bool.not_eq_true', bne_eq_false_iff_eq] at hg1; omega)))).mono ?_; rintro v u' ⟨b, of, cs, hv, hc, hR, hu'⟩; subst hu'
        exact ⟨fun _ => ⟨b, of, cs, hv, hc, hR⟩, Ext.refl _⟩
      refine RW_d _ rfl (fun v => by dsimp only [List.set]; try rfl) (fun u hu hF => ?_) (fun v111 => ?_)
      · have h86_ : β9 = false → PtrR RI u v110 el4 := hF.1
        have h84_ : v108 = (Bo β9) := hF.2.1
        clear hF
        obtain rfl := h84_
        refine doesG_g (b := β9) rfl (yld rfl rfl) (fun hg1 => ?_) (fun hc => ⟨fun hg1 => absurd hg1 hc, Ext.refl _⟩)
        obtain ⟨b86_, o86_, _, rfl, hc86_, rfl⟩ := h86_ hg1
        refine (does_load (u := (Iv el4)) (ev rfl) Try.isAgg2 (Cells.at hc86_ 0 rfl)).mono ?_; rintro _ _ ⟨rfl, rfl⟩
        exact ⟨fun _ => rfl, Ext.refl _⟩
      refine RW_d _ rfl (fun v => by dsimp only [List.set]; try rfl) (fun u hu hF => ?_) (fun v112 => ?_)
      · have h84_ : v108 = (Bo β9) := hF.1
        clear hF
        obtain rfl := h84_
        refine doesG_g (b := β9) rfl (yld rfl rfl) (fun hg1 => ?_) (fun hc => ⟨fun hg1 => absurd hg1 hc, Ext.refl _⟩)
        refine (does_move (u := (.slice p52 el1.length q53)) (ev rfl)).mono ?_; rintro _ _ ⟨rfl, rfl⟩
        exact ⟨fun _ => rfl, Ext.refl _⟩
      refine RW_d _ rfl (fun v => by dsimp only [List.set]; try rfl) (fun u hu hF => ?_) (fun v113 => ?_)
      · have h88_ : β9 = false → v112 = (.slice p52 el1.length q53) := hF.1
        have h84_ : v108 = (Bo β9) := hF.2.1
        clear hF
        obtain rfl := h84_
        refine doesG_g (b := β9) rfl (yld rfl rfl) (fun hg1 => ?_) (fun hc => ⟨fun hg1 => absurd hg1 hc, Ext.refl _⟩)
        obtain rfl := h88_ hg1
        refine (does_indexSl (R := RI) (i := 0) (xs := el1) (e := el2) Try.underlying27 Try.sizeOf2 (ev rfl) (ev rfl) (Sl.ext (Sl.ext hs54 RI.mono E57) RI.mono hu) (by first | omega | (simp only [hβ3, hβ4, hβ5, hβ6, hβ7, hβ8, hβ9, icmp, Bool.or_eq_false_iff, Bool.not_eq_false', Bool.not_eq_true', decide_eq_true_eq, decide_eq_false_iff_not, bne_eq_false_iff_eq] at hg1; omega) | (simp only [hβ3, hβ4, hβ5, hβ6, hβ7, hβ8, hβ9, icmp, Bool.or_eq_false_iff, Bool.not_eq_false', Bool.not_eq_true', decide_eq_true_eq, decide_eq_false_iff_not, bne_eq_false_iff_eq] at hg1 hg2; omega)) (hel2 (by first | omega | (simp only [hβ3, hβ4, hβ5, hβ6, hβ7, hβ8, hβ9, icmp, Bool.or_eq_false_iff, Bool.not_eq_false', Bool.not_eq_true', bne_eq_false_iff_eq] at hg1; omega)))).mono ?_; rintro v u' ⟨b, of, cs, hv, hc, hR, hu'⟩; subst hu'
        exact ⟨fun _ => ⟨b, of, cs, hv, hc, hR⟩, Ext.refl _⟩
      refine RW_d _ rfl (fun v => by dsimp only [List.set]; try rfl) (fun u hu hF => ?_) (fun v114 => ?_)
      · have h89_ : β9 = false → PtrR RI u v113 el2 := hF.1
        have h84_ : v108 = (Bo β9) := hF.2.1
        clear hF
        obtain rfl := h84_
        refine doesG_g (b := β9) rfl (yld rfl rfl) (fun hg1 => ?_) (fun hc => ⟨fun hg1 => absurd hg1 hc, Ext.refl _⟩)
        obtain ⟨b89_, o89_, _, rfl, hc89_, rfl⟩ := h89_ hg1
        refine (does_load (u := (Iv el2)) (ev rfl) Try.isAgg2 (Cells.at hc89_ 0 rfl)).mono ?_; rintro _ _ ⟨rfl, rfl⟩
        exact ⟨fun _ => rfl, Ext.refl _⟩
      refine RW_d _ rfl (fun v => by dsimp only [List.set]; try rfl) (fun u hu hF => ?_) (fun v115 => ?_)
      · have h87_ : β9 = false → v111 = (Iv el4) := hF.1
        have h90_ : β9 = false → v114 = (Iv el2) := hF.2.1
        have h84_ : v108 = (Bo β9) := hF.2.2.1
        clear hF
        obtain rfl := h84_
        refine doesG_g (b := β9) rfl (yld rfl rfl) (fun hg1 => ?_) (fun hc => ⟨fun hg1 => absurd hg1 hc, Ext.refl _⟩)
        obtain rfl := h87_ hg1
        obtain rfl := h90_ hg1
        refine (does_icmp (p := el4) (q := el2) (.inl rfl) (ev rfl) (ev rfl)).mono ?_; rintro _ _ ⟨rfl, rfl⟩
        exact ⟨fun _ => rfl, Ext.refl _⟩
      refine RW_d _ rfl (fun v => by dsimp only [List.set]; try rfl) (fun u hu hF => ?_) (fun v116 => ?_)
      · have h84_ : v108 = (Bo β9) := hF.1
        have h91_ : β9 = false → v115 = (Bo (icmp .eql el4 el2)) := hF.2.1
        clear hF
        refine doesG_un rfl ?_
        skip
        obtain rfl := h84_
        refine (does_pick (b := β9) (u := (Bo true)) (v := v115) (ev rfl) (ev rfl) (ev rfl)).mono ?_; rintro _ _ ⟨rfl, rfl⟩; refine ⟨?_, Ext.refl _⟩; rw [hβ10]; skip
        cases hbb : β9
        all_goals first | (show _ = _; simp only [↓reduceIte, Bool.true_and, Bool.false_and, Bool.true_or, Bool.false_or, Bool.false_eq_true]; done) | (have e_ := h91_ hbb; subst e_; show _ = _; simp only [↓reduceIte, Bool.true_and, Bool.false_and, Bool.true_or, Bool.false_or, Bool.false_eq_true]; done) | rfl | (have e_ := h91_ hbb; subst e_; rfl) | (simp [hbb] at h91_ ⊢; first | done | rfl | (subst h91_; rfl) | simp_all) | (simp [hbb] at h91_ ⊢; done)
      refine RW_fin ?_; intro w117 E118 hP119
      obtain ⟨⟨⟨⟨⟨⟨⟨⟨⟨⟨⟨⟨⟨⟨⟨⟨⟨⟨⟨⟨⟨⟨⟨⟨⟨⟨⟨⟨⟨⟨⟨⟨⟨⟨⟨⟨⟨⟨⟨⟨⟨⟨⟨⟨⟨⟨⟨⟨⟨⟨⟨⟨⟨⟨⟨⟨⟨-, -⟩, -⟩, -⟩, -⟩, -⟩, -⟩, -⟩, -⟩, -⟩, -⟩, -⟩, -⟩, -⟩, -⟩, -⟩, -⟩, -⟩, -⟩, -⟩, -⟩, -⟩, -⟩, -⟩, -⟩, -⟩, -⟩, -⟩, -⟩, -⟩, -⟩, -⟩, -⟩, -⟩, -⟩, -⟩, -⟩, -⟩, -⟩, -⟩, -⟩, -⟩, -⟩, -⟩, -⟩, -⟩, -⟩, -⟩, -⟩, -⟩, -⟩, -⟩, -⟩, -⟩, -⟩, -⟩, -⟩, q120⟩ := hP119
      have X121 := Ext.gr X59 E118
      have q120 : v116 = (Bo β10) := q120
      obtain rfl := q120
      show wpList _ _ _ _ (fr [_, _, _, _, _, _, _, _, _, _, _, _, _, _, _, _, _, _, _, _, _, _, _, _, _, _, _, _, _, _, _, _, _, _, _, _, _, _, _, _, _, _, _, _, _, _, _, _, _, _, _, _, _, _, _, _, _, _, _, _, _, _, _, _, _, _, _, _, _, _, _, _, _, _, _, _, _, _, _, _, _, _, _, _, _, _, _, _, _, _, _, _, _, _]) _
      refine wpList_nil (hK55 _ _ ?_)
      refine wp_cond_split (t := β10) (ev rfl) (fun c122 => ?_) (fun c122 => ?_)
      · have c122' := c122
        (try simp only [hβ1, hβ2, hβ3, hβ4, hβ5, hβ6, hβ7, hβ8, hβ9, hβ10] at c122')
        (try simp only [icmp, Bool.and_eq_true, Bool.or_eq_true, Bool.and_eq_false_iff, Bool.or_eq_false_iff, Bool.not_eq_true', Bool.not_eq_false', decide_eq_true_eq, decide_eq_false_iff_not, beq_iff_eq, bne_iff_ne, beq_eq_false_iff_ne, bne_eq_false_iff_eq] at c122')
        refine wp_seq_k fun K123 hK123 => ?_
        refine wp_region_lit ?_
        refine q_is rfl rfl (does_assign (u := (Bo false)) (ev rfl)) (by dsimp only [List.set]; try rfl) ?_
        refine wpList_nil (hK123 _ _ ?_)
        refine wp_ret ?_
        dsimp only [Exit.then, Exit.inBlock]
        refine ret_val (v := (Bo false)) (res_T rfl (slot rfl)) X121 ?_
        try simp only [hβ1, hβ2, hel1, hβ3, hβ4, hβ5, hβ6, hβ7, hβ8, hβ9, hβ10] at c30 c42 c122
        have x124 : (meshOk A_m) = false := by first | exact meshOk_big (by assumption) | exact meshOk_bad (by assumption) (triS_bad (by assumption) (by assumption) (by assumption) (by assumption)) | exact meshOk_ok (by assumption) hal (by omega)
        exact (by first | with_reducible rfl | rw [x124] | rfl)
      have c122' := c122
      (try simp only [hβ1, hβ2, hβ3, hβ4, hβ5, hβ6, hβ7, hβ8, hβ9, hβ10] at c122')
      (try simp only [icmp, Bool.and_eq_true, Bool.or_eq_true, Bool.and_eq_false_iff, Bool.or_eq_false_iff, Bool.not_eq_true', Bool.not_eq_false', decide_eq_true_eq, decide_eq_false_iff_not, beq_iff_eq, bne_iff_ne, beq_eq_false_iff_ne, bne_eq_false_iff_eq] at c122')
      refine wp_skip (hK43 _ _ ?_)
      refine wp_region_lit ?_
      refine q_is rfl rfl (does_iarith (p := (k : Int)) (q := 1) (r := (k : Int) + 1) (ev rfl) (ev rfl) (.inl ⟨rfl, (in_i64 (by omega) (by omega)).symm⟩)) (by dsimp only [List.set]; try rfl) ?_
      refine q_is rfl rfl (does_move (u := (Iv ((k : Int) + 1))) (ev rfl)) (by dsimp only [List.set]; try rfl) ?_
      refine wpList_nil ?_
      refine ⟨k + 1, ⟨fun t => (([(Pt m_b m_o), Ud, (u35 2), (Iv (A_m.places.length : Int)), (Iv (k : Int)), (.slice p52 el1.length q53), (Pt m_b m_o), (Pt m_b m_o), (Pt m_b m_o), (.slice p5 A_m.places.length q6), (Iv (A_m.places.length : Int)), v15, v16, v17, v18, v19, v20, v21, v22, v23, (Bo (β1 || β2)), (Pt m_b m_o), (Pt m_b m_o), (Pt m_b (m_o + 1)), (.slice p8 A_m.tris.length q9), (Iv (A_m.tris.length : Int)), (Iv ((k : Int) + 1)), (Bo (icmp .lss (k : Int) (A_m.tris.length : Int))), (Iv (k : Int)), (Pt m_b m_o), (Pt m_b m_o), (Pt m_b (m_o + 1)), (.slice p8 A_m.tris.length q9), (Iv (k : Int)), (Pt b46 o47), (.slice p52 el1.length q53), v60, v61, v62, v63, v64, v65, v66, v67, v68, v69, v70, v71, v72, v73, v74, v75, v76, v77, v78, v79, v80, v81, v82, v83, v84, v85, v86, v87, v88, v89, v90, v91, v92, v93, v94, v95, v96, v97, v98, v99, v100, v101, v102, v103, v104, v105, v106, v107, v108, v109, v110, v111, v112, v113, v114, v115, (Bo β10), (Iv ((k : Int) + 1))] : List Value)[t]?).getD undef, ?_, (Ext.gr (Ext.gr E37 E57) E118), ?_⟩, ?_⟩
      · first | rfl | (simp only [Int.natCast_add, Int.natCast_one]; rfl)
      · exact ⟨by omega, AllTo.step hal (by assumption) (triS_ok (by assumption) (by assumption) (by assumption) (by assumption))⟩
      · omega
    have c42' := c42
    (try simp only [hβ1, hβ2] at c42')
    (try simp only [icmp, Bool.and_eq_true, Bool.or_eq_true, Bool.and_eq_false_iff, Bool.or_eq_false_iff, Bool.not_eq_true', Bool.not_eq_false', decide_eq_true_eq, decide_eq_false_iff_not, beq_iff_eq, bne_iff_ne, beq_eq_false_iff_ne, bne_eq_false_iff_eq] at c42')
    refine wp_exit ?_
    refine hK33 _ _ ?_
    refine wp_seq_k fun K125 hK125 => ?_
    refine wp_region_lit ?_
    refine q_is rfl rfl (does_assign (u := (Bo true)) (ev rfl)) (by dsimp only [List.set]; try rfl) ?_
    refine wpList_nil (hK125 _ _ ?_)
    refine wp_ret ?_
    refine ret_val (v := (Bo true)) (res_T rfl (slot rfl)) X39 ?_
    try simp only [hβ1, hβ2] at c30 c42
    have x126 : (meshOk A_m) = true := by first | exact meshOk_big (by assumption) | exact meshOk_bad (by assumption) (triS_bad (by assumption) (by assumption) (by assumption) (by assumption)) | exact meshOk_ok (by assumption) hal (by omega)
    exact (by first | with_reducible rfl | rw [x126] | rfl)

end Go.Proofs.Ytoblnfkpjgghiaa
