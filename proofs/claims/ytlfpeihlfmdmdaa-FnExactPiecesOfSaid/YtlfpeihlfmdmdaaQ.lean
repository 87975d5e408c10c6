/- contracts of functions, each walked once -/
import Derived.Test.YtlfpeihlfmdmdaaTy
import Derived.Test.YtlfpeihlfmdmdaaUni
import Derived.Test.YtlfpeihlfmdmdaaOwn
import Derived.Test.YtlfpeihlfmdmdaaFlp
import Derived.Test.YtlfpeihlfmdmdaaNrm
import Derived.Test.YtlfpeihlfmdmdaaGph
import Derived.Test.YtlfpeihlfmdmdaaQue
import Derived.Test.YtlfpeihlfmdmdaaRwa
import Derived.Test.YtlfpeihlfmdmdaaRep
import Derived.Test.YtlfpeihlfmdmdaaMul
import Derived.Test.YtlfpeihlfmdmdaaNex
import Derived.Test.YtlfpeihlfmdmdaaPcs
namespace Go.Proofs.Ytlfpeihlfmdmdaa
open Go Go.RowKit
set_option maxRecDepth 100000
set_option maxHeartbeats 3200000
set_option linter.unusedVariables false
set_option linter.unusedSimpArgs false

/- laws.szVectorS -/
theorem c_laws_szVectorS (a : Value) (L_a : List V3) (left : Int) (w : World) (hv_a : Sl RV3 3 w a L_a) (hle : left ≤ 1048576) (hge : 0 ≤ left) : Gives Try.prog 20 #[a, (Iv left)] w (fun v w' => ∃ i_1 : Int, v = (Iv i_1) ∧ (i_1 < 0 ∨ ((L_a.length : Int) ≤ left ∧ i_1 = left - L_a.length ∧ 0 ≤ i_1))) := by
  have hlen_a := Sl.len hv_a; obtain ⟨p_a, q_a, rfl⟩ := Sl.shape hv_a
  refine enter [(.slice p_a L_a.length q_a), (Iv left), Ud, Ud, Ud, Ud, Ud, Ud, Ud, Ud, Ud, Ud] Try.func20 rfl Try.ntmps20 rfl ?_
  refine wp_seq_k fun K1 hK1 => ?_
  refine wp_region_lit ?_
  refine q_is (l' := [(.slice p_a L_a.length q_a), (Iv left), Ud, Ud, (Iv 0), Ud, Ud, Ud, Ud, Ud, Ud, Ud]) rfl rfl (does_assign (u := (Iv 0)) (ev rfl)) rfl ?_
  refine wpList_nil (hK1 _ _ ?_)
  refine wp_seq_k fun K2 hK2 => ?_
  refine wp_region_lit ?_
  refine q_is (l' := [(.slice p_a L_a.length q_a), (Iv left), Ud, Ud, (Iv 0), (Iv left), Ud, Ud, Ud, Ud, Ud, Ud]) rfl rfl (does_move (u := (Iv left)) (ev rfl)) rfl ?_
  refine q_is (l' := [(.slice p_a L_a.length q_a), (Iv left), Ud, Ud, (Iv 0), (Iv left), (.slice p_a L_a.length q_a), Ud, Ud, Ud, Ud, Ud]) rfl rfl (does_move (u := (.slice p_a L_a.length q_a)) (ev rfl)) rfl ?_
  refine q_is (l' := [(.slice p_a L_a.length q_a), (Iv left), Ud, Ud, (Iv 0), (Iv left), (.slice p_a L_a.length q_a), (Iv (L_a.length : Int)), Ud, Ud, Ud, Ud]) rfl rfl (does_len_slice Try.underlying22 (ev rfl)) rfl ?_
  refine q_is (l' := [(.slice p_a L_a.length q_a), (Iv left), Ud, Ud, (Iv 0), (Iv left), (.slice p_a L_a.length q_a), (Iv (L_a.length : Int)), (Iv (left - (L_a.length : Int))), Ud, Ud, Ud]) rfl rfl (does_iarith (p := left) (q := (L_a.length : Int)) (r := left - (L_a.length : Int)) (ev rfl) (ev rfl) (.inr (.inl ⟨rfl, (in_i64 (by omega) (by omega)).symm⟩))) rfl ?_
  refine q_is (l' := [(.slice p_a L_a.length q_a), (Iv (left - (L_a.length : Int))), Ud, Ud, (Iv 0), (Iv left), (.slice p_a L_a.length q_a), (Iv (L_a.length : Int)), (Iv (left - (L_a.length : Int))), Ud, Ud, Ud]) rfl rfl (does_assign (u := (Iv (left - (L_a.length : Int)))) (ev rfl)) rfl ?_
  refine wpList_nil (hK2 _ _ ?_)
  refine wp_seq_k fun K3 hK3 => ?_
  refine wp_seq_k fun K4 hK4 => ?_
  refine wp_region_lit ?_
  refine q_is (l' := [(.slice p_a L_a.length q_a), (Iv (left - (L_a.length : Int))), Ud, Ud, (Iv 0), (Iv left), (.slice p_a L_a.length q_a), (Iv (L_a.length : Int)), (Iv (left - (L_a.length : Int))), (Iv (left - (L_a.length : Int))), Ud, Ud]) rfl rfl (does_move (u := (Iv (left - (L_a.length : Int)))) (ev rfl)) rfl ?_
  refine q_is (l' := [(.slice p_a L_a.length q_a), (Iv (left - (L_a.length : Int))), Ud, Ud, (Iv 0), (Iv left), (.slice p_a L_a.length q_a), (Iv (L_a.length : Int)), (Iv (left - (L_a.length : Int))), (Iv (left - (L_a.length : Int))), (Bo (icmp .lss (left - (L_a.length : Int)) 0)), Ud]) rfl rfl (does_icmp (p := left - (L_a.length : Int)) (q := 0) (.inr (.inr (.inl rfl))) (ev rfl) (ev rfl)) rfl ?_
  refine wpList_nil (hK4 _ _ ?_)
  refine wp_cond_split (t := icmp .lss (left - (L_a.length : Int)) 0) (ev rfl) (fun c5 => ?_) (fun c5 => ?_)
  · have c5' := c5
    (try simp only [icmp, Bool.and_eq_true, Bool.or_eq_true, Bool.and_eq_false_iff, Bool.or_eq_false_iff, Bool.not_eq_true', Bool.not_eq_false', decide_eq_true_eq, decide_eq_false_iff_not, beq_iff_eq, bne_iff_ne, beq_eq_false_iff_ne, bne_eq_false_iff_eq] at c5')
    refine wp_seq_k fun K6 hK6 => ?_
    refine wp_region_lit ?_
    refine q_is (l' := [(.slice p_a L_a.length q_a), (Iv (left - (L_a.length : Int))), Ud, Ud, (Iv (-1)), (Iv left), (.slice p_a L_a.length q_a), (Iv (L_a.length : Int)), (Iv (left - (L_a.length : Int))), (Iv (left - (L_a.length : Int))), (Bo (icmp .lss (left - (L_a.length : Int)) 0)), Ud]) rfl rfl (does_assign (u := (Iv (-1))) (ev rfl)) rfl ?_
    refine wpList_nil (hK6 _ _ ?_)
    refine wp_ret ?_
    dsimp only [Exit.then, Exit.inBlock]
    refine ret_val (v := (Iv (-1))) (res_T rfl (slot rfl)) (Ext.refl w) ?_
    have x7 : (-1) < 0 ∨ ((L_a.length : Int) ≤ left ∧ (-1) = left - L_a.length ∧ 0 ≤ (-1)) := by omega
    exact ⟨(-1), rfl, x7⟩
  have c5' := c5
  (try simp only [icmp, Bool.and_eq_true, Bool.or_eq_true, Bool.and_eq_false_iff, Bool.or_eq_false_iff, Bool.not_eq_true', Bool.not_eq_false', decide_eq_true_eq, decide_eq_false_iff_not, beq_iff_eq, bne_iff_ne, beq_eq_false_iff_ne, bne_eq_false_iff_eq] at c5')
  refine wp_skip (hK3 _ _ ?_)
  refine wp_seq_k fun K8 hK8 => ?_
  refine wp_region_lit ?_
  refine q_is (l' := [(.slice p_a L_a.length q_a), (Iv (left - (L_a.length : Int))), Ud, Ud, (Iv 0), (Iv left), (.slice p_a L_a.length q_a), (Iv (L_a.length : Int)), (Iv (left - (L_a.length : Int))), (Iv (left - (L_a.length : Int))), (Bo (icmp .lss (left - (L_a.length : Int)) 0)), (Iv (left - (L_a.length : Int)))]) rfl rfl (does_move (u := (Iv (left - (L_a.length : Int)))) (ev rfl)) rfl ?_
  refine q_is (l' := [(.slice p_a L_a.length q_a), (Iv (left - (L_a.length : Int))), Ud, Ud, (Iv (left - (L_a.length : Int))), (Iv left), (.slice p_a L_a.length q_a), (Iv (L_a.length : Int)), (Iv (left - (L_a.length : Int))), (Iv (left - (L_a.length : Int))), (Bo (icmp .lss (left - (L_a.length : Int)) 0)), (Iv (left - (L_a.length : Int)))]) rfl rfl (does_assign (u := (Iv (left - (L_a.length : Int)))) (ev rfl)) rfl ?_
  refine wpList_nil (hK8 _ _ ?_)
  refine wp_ret ?_
  refine ret_val (v := (Iv (left - (L_a.length : Int)))) (res_T rfl (slot rfl)) (Ext.refl w) ?_
  have x9 : (left - (L_a.length : Int)) < 0 ∨ ((L_a.length : Int) ≤ left ∧ (left - (L_a.length : Int)) = left - L_a.length ∧ 0 ≤ (left - (L_a.length : Int))) := by omega
  exact ⟨(left - (L_a.length : Int)), rfl, x9⟩

/- laws.szInt64S -/
theorem c_laws_szInt64S (a : Value) (L_a : List Int) (left : Int) (w : World) (hv_a : Sl RI 1 w a L_a) (hle : left ≤ 1048576) (hge : 0 ≤ left) : Gives Try.prog 46 #[a, (Iv left)] w (fun v w' => ∃ i_1 : Int, v = (Iv i_1) ∧ (i_1 < 0 ∨ ((L_a.length : Int) ≤ left ∧ i_1 = left - L_a.length ∧ 0 ≤ i_1))) := by
  have hlen_a := Sl.len hv_a; obtain ⟨p_a, q_a, rfl⟩ := Sl.shape hv_a
  refine enter [(.slice p_a L_a.length q_a), (Iv left), Ud, Ud, Ud, Ud, Ud, Ud, Ud, Ud, Ud, Ud] Try.func46 rfl Try.ntmps46 rfl ?_
  refine wp_seq_k fun K1 hK1 => ?_
  refine wp_region_lit ?_
  refine q_is (l' := [(.slice p_a L_a.length q_a), (Iv left), Ud, Ud, (Iv 0), Ud, Ud, Ud, Ud, Ud, Ud, Ud]) rfl rfl (does_assign (u := (Iv 0)) (ev rfl)) rfl ?_
  refine wpList_nil (hK1 _ _ ?_)
  refine wp_seq_k fun K2 hK2 => ?_
  refine wp_region_lit ?_
  refine q_is (l' := [(.slice p_a L_a.length q_a), (Iv left), Ud, Ud, (Iv 0), (Iv left), Ud, Ud, Ud, Ud, Ud, Ud]) rfl rfl (does_move (u := (Iv left)) (ev rfl)) rfl ?_
  refine q_is (l' := [(.slice p_a L_a.length q_a), (Iv left), Ud, Ud, (Iv 0), (Iv left), (.slice p_a L_a.length q_a), Ud, Ud, Ud, Ud, Ud]) rfl rfl (does_move (u := (.slice p_a L_a.length q_a)) (ev rfl)) rfl ?_
  refine q_is (l' := [(.slice p_a L_a.length q_a), (Iv left), Ud, Ud, (Iv 0), (Iv left), (.slice p_a L_a.length q_a), (Iv (L_a.length : Int)), Ud, Ud, Ud, Ud]) rfl rfl (does_len_slice Try.underlying27 (ev rfl)) rfl ?_
  refine q_is (l' := [(.slice p_a L_a.length q_a), (Iv left), Ud, Ud, (Iv 0), (Iv left), (.slice p_a L_a.length q_a), (Iv (L_a.length : Int)), (Iv (left - (L_a.length : Int))), Ud, Ud, Ud]) rfl rfl (does_iarith (p := left) (q := (L_a.length : Int)) (r := left - (L_a.length : Int)) (ev rfl) (ev rfl) (.inr (.inl ⟨rfl, (in_i64 (by omega) (by omega)).symm⟩))) rfl ?_
  refine q_is (l' := [(.slice p_a L_a.length q_a), (Iv (left - (L_a.length : Int))), Ud, Ud, (Iv 0), (Iv left), (.slice p_a L_a.length q_a), (Iv (L_a.length : Int)), (Iv (left - (L_a.length : Int))), Ud, Ud, Ud]) rfl rfl (does_assign (u := (Iv (left - (L_a.length : Int)))) (ev rfl)) rfl ?_
  refine wpList_nil (hK2 _ _ ?_)
  refine wp_seq_k fun K3 hK3 => ?_
  refine wp_seq_k fun K4 hK4 => ?_
  refine wp_region_lit ?_
  refine q_is (l' := [(.slice p_a L_a.length q_a), (Iv (left - (L_a.length : Int))), Ud, Ud, (Iv 0), (Iv left), (.slice p_a L_a.length q_a), (Iv (L_a.length : Int)), (Iv (left - (L_a.length : Int))), (Iv (left - (L_a.length : Int))), Ud, Ud]) rfl rfl (does_move (u := (Iv (left - (L_a.length : Int)))) (ev rfl)) rfl ?_
  refine q_is (l' := [(.slice p_a L_a.length q_a), (Iv (left - (L_a.length : Int))), Ud, Ud, (Iv 0), (Iv left), (.slice p_a L_a.length q_a), (Iv (L_a.length : Int)), (Iv (left - (L_a.length : Int))), (Iv (left - (L_a.length : Int))), (Bo (icmp .lss (left - (L_a.length : Int)) 0)), Ud]) rfl rfl (does_icmp (p := left - (L_a.length : Int)) (q := 0) (.inr (.inr (.inl rfl))) (ev rfl) (ev rfl)) rfl ?_
  refine wpList_nil (hK4 _ _ ?_)
  refine wp_cond_split (t := icmp .lss (left - (L_a.length : Int)) 0) (ev rfl) (fun c5 => ?_) (fun c5 => ?_)
  · have c5' := c5
    (try simp only [icmp, Bool.and_eq_true, Bool.or_eq_true, Bool.and_eq_false_iff, Bool.or_eq_false_iff, Bool.not_eq_true', Bool.not_eq_false', decide_eq_true_eq, decide_eq_false_iff_not, beq_iff_eq, bne_iff_ne, beq_eq_false_iff_ne, bne_eq_false_iff_eq] at c5')
    refine wp_seq_k fun K6 hK6 => ?_
    refine wp_region_lit ?_
    refine q_is (l' := [(.slice p_a L_a.length q_a), (Iv (left - (L_a.length : Int))), Ud, Ud, (Iv (-1)), (Iv left), (.slice p_a L_a.length q_a), (Iv (L_a.length : Int)), (Iv (left - (L_a.length : Int))), (Iv (left - (L_a.length : Int))), (Bo (icmp .lss (left - (L_a.length : Int)) 0)), Ud]) rfl rfl (does_assign (u := (Iv (-1))) (ev rfl)) rfl ?_
    refine wpList_nil (hK6 _ _ ?_)
    refine wp_ret ?_
    dsimp only [Exit.then, Exit.inBlock]
    refine ret_val (v := (Iv (-1))) (res_T rfl (slot rfl)) (Ext.refl w) ?_
    have x7 : (-1) < 0 ∨ ((L_a.length : Int) ≤ left ∧ (-1) = left - L_a.length ∧ 0 ≤ (-1)) := by omega
    exact ⟨(-1), rfl, x7⟩
  have c5' := c5
  (try simp only [icmp, Bool.and_eq_true, Bool.or_eq_true, Bool.and_eq_false_iff, Bool.or_eq_false_iff, Bool.not_eq_true', Bool.not_eq_false', decide_eq_true_eq, decide_eq_false_iff_not, beq_iff_eq, bne_iff_ne, beq_eq_false_iff_ne, bne_eq_false_iff_eq] at c5')
  refine wp_skip (hK3 _ _ ?_)
  refine wp_seq_k fun K8 hK8 => ?_
  refine wp_region_lit ?_
  refine q_is (l' := [(.slice p_a L_a.length q_a), (Iv (left - (L_a.length : Int))), Ud, Ud, (Iv 0), (Iv left), (.slice p_a L_a.length q_a), (Iv (L_a.length : Int)), (Iv (left - (L_a.length : Int))), (Iv (left - (L_a.length : Int))), (Bo (icmp .lss (left - (L_a.length : Int)) 0)), (Iv (left - (L_a.length : Int)))]) rfl rfl (does_move (u := (Iv (left - (L_a.length : Int)))) (ev rfl)) rfl ?_
  refine q_is (l' := [(.slice p_a L_a.length q_a), (Iv (left - (L_a.length : Int))), Ud, Ud, (Iv (left - (L_a.length : Int))), (Iv left), (.slice p_a L_a.length q_a), (Iv (L_a.length : Int)), (Iv (left - (L_a.length : Int))), (Iv (left - (L_a.length : Int))), (Bo (icmp .lss (left - (L_a.length : Int)) 0)), (Iv (left - (L_a.length : Int)))]) rfl rfl (does_assign (u := (Iv (left - (L_a.length : Int)))) (ev rfl)) rfl ?_
  refine wpList_nil (hK8 _ _ ?_)
  refine wp_ret ?_
  refine ret_val (v := (Iv (left - (L_a.length : Int)))) (res_T rfl (slot rfl)) (Ext.refl w) ?_
  have x9 : (left - (L_a.length : Int)) < 0 ∨ ((L_a.length : Int) ≤ left ∧ (left - (L_a.length : Int)) = left - L_a.length ∧ 0 ≤ (left - (L_a.length : Int))) := by omega
  exact ⟨(left - (L_a.length : Int)), rfl, x9⟩

/- laws.szInt64SS -/
theorem c_laws_szInt64SS (a : Value) (L_a : List (List Int)) (left : Int) (w : World) (hv_a : Sl (RS RI 1) 1 w a L_a) (hle : left ≤ 1048576) (hge : 0 ≤ left) : Gives Try.prog 21 #[a, (Iv left)] w (fun v w' => ∃ i_1 : Int, v = (Iv i_1) ∧ (i_1 < 0 ∨ ((liTot L_a : Int) ≤ left ∧ i_1 = left - liTot L_a ∧ 0 ≤ i_1))) := by
  have hlen_a := Sl.len hv_a; obtain ⟨p_a, q_a, rfl⟩ := Sl.shape hv_a
  refine enter [(.slice p_a L_a.length q_a), (Iv left), Ud, Ud, Ud, Ud, Ud, Ud, Ud, Ud, Ud, Ud, Ud, Ud, Ud, Ud, Ud, Ud, Ud, Ud, Ud, Ud, Ud, Ud, Ud, Ud, Ud] Try.func21 rfl Try.ntmps21 rfl ?_
  refine wp_seq_k fun K1 hK1 => ?_
  refine wp_region_lit ?_
  refine q_is rfl rfl (does_assign (u := (Iv 0)) (ev rfl)) (by dsimp only [List.set]; try rfl) ?_
  refine wpList_nil (hK1 _ _ ?_)
  refine wp_seq_k fun K2 hK2 => ?_
  refine wp_region_lit ?_
  refine q_is rfl rfl (does_move (u := (Iv left)) (ev rfl)) (by dsimp only [List.set]; try rfl) ?_
  refine q_is rfl rfl (does_move (u := (.slice p_a L_a.length q_a)) (ev rfl)) (by dsimp only [List.set]; try rfl) ?_
  refine q_is rfl rfl (does_len_slice Try.underlying23 (ev rfl)) (by dsimp only [List.set]; try rfl) ?_
  refine q_is rfl rfl (does_iarith (p := left) (q := (L_a.length : Int)) (r := left - (L_a.length : Int)) (ev rfl) (ev rfl) (.inr (.inl ⟨rfl, (in_i64 (by omega) (by omega)).symm⟩))) (by dsimp only [List.set]; try rfl) ?_
  refine q_is rfl rfl (does_assign (u := (Iv (left - (L_a.length : Int)))) (ev rfl)) (by dsimp only [List.set]; try rfl) ?_
  refine wpList_nil (hK2 _ _ ?_)
  refine wp_seq_k fun K3 hK3 => ?_
  refine wp_seq_k fun K4 hK4 => ?_
  refine wp_region_lit ?_
  refine q_is rfl rfl (does_move (u := (Iv (left - (L_a.length : Int)))) (ev rfl)) (by dsimp only [List.set]; try rfl) ?_
  refine q_is rfl rfl (does_icmp (p := left - (L_a.length : Int)) (q := 0) (.inr (.inr (.inl rfl))) (ev rfl) (ev rfl)) (by dsimp only [List.set]; try rfl) ?_
  refine wpList_nil (hK4 _ _ ?_)
  refine wp_cond_split (t := icmp .lss (left - (L_a.length : Int)) 0) (ev rfl) (fun c5 => ?_) (fun c5 => ?_)
  · have c5' := c5
    (try simp only [icmp, Bool.and_eq_true, Bool.or_eq_true, Bool.and_eq_false_iff, Bool.or_eq_false_iff, Bool.not_eq_true', Bool.not_eq_false', decide_eq_true_eq, decide_eq_false_iff_not, beq_iff_eq, bne_iff_ne, beq_eq_false_iff_ne, bne_eq_false_iff_eq] at c5')
    refine wp_seq_k fun K6 hK6 => ?_
    refine wp_region_lit ?_
    refine q_is rfl rfl (does_assign (u := (Iv (-1))) (ev rfl)) (by dsimp only [List.set]; try rfl) ?_
    refine wpList_nil (hK6 _ _ ?_)
    refine wp_ret ?_
    dsimp only [Exit.then, Exit.inBlock]
    refine ret_val (v := (Iv (-1))) (res_T rfl (slot rfl)) (Ext.refl w) ?_
    have x7 : (-1) < 0 ∨ ((liTot L_a : Int) ≤ left ∧ (-1) = left - liTot L_a ∧ 0 ≤ (-1)) := by first | omega | (have hle : s.1 = L_a.length := (by omega); rw [hle] at hn; right; unfold liTot; omega)
    exact ⟨(-1), rfl, x7⟩
  have c5' := c5
  (try simp only [icmp, Bool.and_eq_true, Bool.or_eq_true, Bool.and_eq_false_iff, Bool.or_eq_false_iff, Bool.not_eq_true', Bool.not_eq_false', decide_eq_true_eq, decide_eq_false_iff_not, beq_iff_eq, bne_iff_ne, beq_eq_false_iff_ne, bne_eq_false_iff_eq] at c5')
  refine wp_skip (hK3 _ _ ?_)
  refine wp_seq_k fun K8 hK8 => ?_
  refine wp_seq_k fun K9 hK9 => ?_
  refine wp_region_lit ?_
  refine q_is rfl rfl (does_assign (u := (Iv 0)) (ev rfl)) (by dsimp only [List.set]; try rfl) ?_
  refine wpList_nil (hK9 _ _ ?_)
  refine wp_block ?_
  refine loop_ghost (σ := Nat × Int) (fun s a w' => ∃ u10 : Nat → Value, a = fr [(.slice p_a L_a.length q_a), (Iv s.2), Ud, Ud, (u10 4), (Iv (s.1 : Int)), (Iv left), (.slice p_a L_a.length q_a), (Iv (L_a.length : Int)), (Iv (left - (L_a.length : Int))), (Iv (left - (L_a.length : Int))), (Bo (icmp .lss (left - (L_a.length : Int)) 0)), (u10 12), (u10 13), (u10 14), (u10 15), (u10 16), (u10 17), (u10 18), (u10 19), (u10 20), (u10 21), (u10 22), (u10 23), (u10 24), (u10 25), Ud] ∧ Ext w w' ∧ (s.1 ≤ L_a.length ∧ s.2 = left - L_a.length - (liSum L_a s.1 : Nat) ∧ 0 ≤ s.2)) (fun s => L_a.length - s.1) (0, left - L_a.length) ?_ ?_
  · refine ⟨fun t => (([(.slice p_a L_a.length q_a), (Iv (left - (L_a.length : Int))), Ud, Ud, (Iv 0), (Iv 0), (Iv left), (.slice p_a L_a.length q_a), (Iv (L_a.length : Int)), (Iv (left - (L_a.length : Int))), (Iv (left - (L_a.length : Int))), (Bo (icmp .lss (left - (L_a.length : Int)) 0)), Ud, Ud, Ud, Ud, Ud, Ud, Ud, Ud, Ud, Ud, Ud, Ud, Ud, Ud, Ud] : List Value)[t]?).getD undef, rfl, Ext.refl _, ?_⟩
    exact ⟨Nat.zero_le _, by simp [liSum], by omega⟩
  · rintro s a w11 ⟨u10, rfl, E12, ⟨hk, hn, h0⟩⟩
    have X14 := Ext.gr (Ext.refl w) E12
    refine wp_seq_k fun K15 hK15 => ?_
    refine wp_seq_k fun K16 hK16 => ?_
    refine wp_region_lit ?_
    refine q_is rfl rfl (does_move (u := (Iv (s.1 : Int))) (ev rfl)) (by dsimp only [List.set]; try rfl) ?_
    refine q_is rfl rfl (does_move (u := (.slice p_a L_a.length q_a)) (ev rfl)) (by dsimp only [List.set]; try rfl) ?_
    refine q_is rfl rfl (does_len_slice Try.underlying23 (ev rfl)) (by dsimp only [List.set]; try rfl) ?_
    refine q_is rfl rfl (does_icmp (p := (s.1 : Int)) (q := (L_a.length : Int)) (.inr (.inr (.inl rfl))) (ev rfl) (ev rfl)) (by dsimp only [List.set]; try rfl) ?_
    refine wpList_nil (hK16 _ _ ?_)
    refine wp_cond_split (t := icmp .lss (s.1 : Int) (L_a.length : Int)) (ev rfl) (fun c17 => ?_) (fun c17 => ?_)
    · have c17' := c17
      (try simp only [icmp, Bool.and_eq_true, Bool.or_eq_true, Bool.and_eq_false_iff, Bool.or_eq_false_iff, Bool.not_eq_true', Bool.not_eq_false', decide_eq_true_eq, decide_eq_false_iff_not, beq_iff_eq, bne_iff_ne, beq_eq_false_iff_ne, bne_eq_false_iff_eq] at c17')
      refine wp_skip (hK15 _ _ ?_)
      refine wp_seq_k fun K18 hK18 => ?_
      refine wp_block ?_
      refine wp_seq_k fun K19 hK19 => ?_
      refine wp_region_lit ?_
      refine q_is rfl rfl (does_move (u := (.slice p_a L_a.length q_a)) (ev rfl)) (by dsimp only [List.set]; try rfl) ?_
      refine q_is rfl rfl (does_move (u := (Iv (s.1 : Int))) (ev rfl)) (by dsimp only [List.set]; try rfl) ?_
      obtain ⟨el1, hel1⟩ : ∃ e, L_a[s.1]? = some e := ⟨_, List.getElem?_eq_getElem (by omega)⟩
      refine seqd rfl rfl (does_indexSl (R := (RS RI 1)) (i := (s.1 : Int)) (xs := L_a) (e := el1) Try.underlying23 Try.sizeOf27 (ev rfl) (ev rfl) (Sl.ext hv_a (RS.mono RI.mono) X14) (by omega) hel1) ?_; rintro _ w11 ⟨b20, o21, _, rfl, hc23, ⟨y24, rfl, h25⟩, rfl⟩
      have hs28 := h25; have hs28l := Sl.len h25; obtain ⟨p26, q27, rfl⟩ := Sl.shape h25
      show wpList _ _ _ _ (fr [_, _, _, _, _, _, _, _, _, _, _, _, _, _, _, _, _, _, _, _, _, _, _, _, _, _, _]) _
      refine q_is rfl rfl (does_load (u := (.slice p26 el1.length q27)) (ev rfl) Try.isAgg27 (Cells.at hc23 0 rfl)) (by dsimp only [List.set]; try rfl) ?_
      refine q_is rfl rfl (does_move (u := (Iv s.2)) (ev rfl)) (by dsimp only [List.set]; try rfl) ?_
      refine seqd rfl rfl (does_call (args := #[(.slice p26 el1.length q27), (Iv s.2)]) cal46 (evs rfl) (c_laws_szInt64S (.slice p26 el1.length q27) el1 s.2 _ hs28 (by omega) (by omega))) ?_; rintro _ w30 ⟨E29, ⟨i31, rfl, h32⟩⟩
      have X33 := Ext.gr X14 E29
      show wpList _ _ _ _ (fr [_, _, _, _, _, _, _, _, _, _, _, _, _, _, _, _, _, _, _, _, _, _, _, _, _, _, _]) _
      refine q_is rfl rfl (does_assign (u := (Iv i31)) (ev rfl)) (by dsimp only [List.set]; try rfl) ?_
      refine wpList_nil (hK19 _ _ ?_)
      refine wp_seq_k fun K34 hK34 => ?_
      refine wp_region_lit ?_
      refine q_is rfl rfl (does_move (u := (Iv i31)) (ev rfl)) (by dsimp only [List.set]; try rfl) ?_
      refine q_is rfl rfl (does_icmp (p := i31) (q := 0) (.inr (.inr (.inl rfl))) (ev rfl) (ev rfl)) (by dsimp only [List.set]; try rfl) ?_
      refine wpList_nil (hK34 _ _ ?_)
      refine wp_cond_split (t := icmp .lss i31 0) (ev rfl) (fun c35 => ?_) (fun c35 => ?_)
      · have c35' := c35
        (try simp only [icmp, Bool.and_eq_true, Bool.or_eq_true, Bool.and_eq_false_iff, Bool.or_eq_false_iff, Bool.not_eq_true', Bool.not_eq_false', decide_eq_true_eq, decide_eq_false_iff_not, beq_iff_eq, bne_iff_ne, beq_eq_false_iff_ne, bne_eq_false_iff_eq] at c35')
        refine wp_seq_k fun K36 hK36 => ?_
        refine wp_region_lit ?_
        refine q_is rfl rfl (does_assign (u := (Iv (-1))) (ev rfl)) (by dsimp only [List.set]; try rfl) ?_
        refine wpList_nil (hK36 _ _ ?_)
        refine wp_ret ?_
        dsimp only [Exit.then, Exit.inBlock]
        refine ret_val (v := (Iv (-1))) (res_T rfl (slot rfl)) X33 ?_
        try simp only [hel1] at c5 c17 c35
        have x37 : (-1) < 0 ∨ ((liTot L_a : Int) ≤ left ∧ (-1) = left - liTot L_a ∧ 0 ≤ (-1)) := by first | omega | (have hle : s.1 = L_a.length := (by omega); rw [hle] at hn; right; unfold liTot; omega)
        exact ⟨(-1), rfl, x37⟩
      have c35' := c35
      (try simp only [icmp, Bool.and_eq_true, Bool.or_eq_true, Bool.and_eq_false_iff, Bool.or_eq_false_iff, Bool.not_eq_true', Bool.not_eq_false', decide_eq_true_eq, decide_eq_false_iff_not, beq_iff_eq, bne_iff_ne, beq_eq_false_iff_ne, bne_eq_false_iff_eq] at c35')
      refine wp_skip (hK18 _ _ ?_)
      refine wp_region_lit ?_
      refine q_is rfl rfl (does_move (u := (Iv (s.1 : Int))) (ev rfl)) (by dsimp only [List.set]; try rfl) ?_
      refine q_is rfl rfl (does_iarith (p := (s.1 : Int)) (q := 1) (r := (s.1 : Int) + 1) (ev rfl) (ev rfl) (.inl ⟨rfl, (in_i64 (by omega) (by omega)).symm⟩)) (by dsimp only [List.set]; try rfl) ?_
      refine q_is rfl rfl (does_assign (u := (Iv ((s.1 : Int) + 1))) (ev rfl)) (by dsimp only [List.set]; try rfl) ?_
      refine wpList_nil ?_
      refine ⟨(s.1 + 1, i31), ⟨fun t => (([(.slice p_a L_a.length q_a), (Iv i31), Ud, Ud, (u10 4), (Iv ((s.1 : Int) + 1)), (Iv left), (.slice p_a L_a.length q_a), (Iv (L_a.length : Int)), (Iv (left - (L_a.length : Int))), (Iv (left - (L_a.length : Int))), (Bo (icmp .lss (left - (L_a.length : Int)) 0)), (Iv (s.1 : Int)), (.slice p_a L_a.length q_a), (Iv (L_a.length : Int)), (Bo (icmp .lss (s.1 : Int) (L_a.length : Int))), (Iv (s.1 : Int)), (Iv ((s.1 : Int) + 1)), (.slice p_a L_a.length q_a), (Iv (s.1 : Int)), (Pt b20 o21), (.slice p26 el1.length q27), (Iv s.2), (Iv i31), (Iv i31), (Bo (icmp .lss i31 0)), Ud] : List Value)[t]?).getD undef, ?_, (Ext.gr E12 E29), ?_⟩, ?_⟩
      · first | rfl | (simp only [Int.natCast_add, Int.natCast_one]; rfl)
      · (try dsimp only); have hss := liSum_succ (by assumption : L_a[s.1]? = some _); refine ⟨by omega, ?_, ?_⟩ <;> (try dsimp only) <;> omega
      · (try dsimp only); omega
    have c17' := c17
    (try simp only [icmp, Bool.and_eq_true, Bool.or_eq_true, Bool.and_eq_false_iff, Bool.or_eq_false_iff, Bool.not_eq_true', Bool.not_eq_false', decide_eq_true_eq, decide_eq_false_iff_not, beq_iff_eq, bne_iff_ne, beq_eq_false_iff_ne, bne_eq_false_iff_eq] at c17')
    refine wp_exit ?_
    refine hK8 _ _ ?_
    refine wp_seq_k fun K38 hK38 => ?_
    refine wp_region_lit ?_
    refine q_is rfl rfl (does_move (u := (Iv s.2)) (ev rfl)) (by dsimp only [List.set]; try rfl) ?_
    refine q_is rfl rfl (does_assign (u := (Iv s.2)) (ev rfl)) (by dsimp only [List.set]; try rfl) ?_
    refine wpList_nil (hK38 _ _ ?_)
    refine wp_ret ?_
    refine ret_val (v := (Iv s.2)) (res_T rfl (slot rfl)) X14 ?_
    have x39 : s.2 < 0 ∨ ((liTot L_a : Int) ≤ left ∧ s.2 = left - liTot L_a ∧ 0 ≤ s.2) := by first | omega | (have hle : s.1 = L_a.length := (by omega); rw [hle] at hn; right; unfold liTot; omega)
    exact ⟨s.2, rfl, x39⟩

/- laws.szMesh -/
theorem c_laws_szMesh (a : List Value) (A_a : MeshT) (left : Int) (w : World) (hv_a : RMeshT w A_a a) (hle : left ≤ 1048576) (hge : 0 ≤ left) : Gives Try.prog 5 #[(.agg a.toArray), (Iv left)] w (fun v w' => ∃ i_1 : Int, v = (Iv i_1) ∧ (i_1 < 0 ∨ ((meTot A_a : Int) ≤ left ∧ i_1 = left - meTot A_a ∧ 0 ≤ i_1))) := by
  obtain ⟨y1, y3, rfl, h2, h4⟩ := hv_a
  have hs7 := h2; have hs7l := Sl.len h2; obtain ⟨p5, q6, rfl⟩ := Sl.shape h2
  have hs10 := h4; have hs10l := Sl.len h4; obtain ⟨p8, q9, rfl⟩ := Sl.shape h4
  refine enter [(.agg #[(.slice p5 A_a.places.length q6), (.slice p8 A_a.tris.length q9)]), (Iv left), Ud, Ud, Ud, Ud, Ud, Ud, Ud, Ud, Ud, Ud, Ud, Ud, Ud, Ud, Ud, Ud] Try.func5 rfl Try.ntmps5 rfl ?_
  refine wp_seq_k fun K11 hK11 => ?_
  refine wp_region_lit ?_
  refine seqd rfl rfl (does_box (u := (.agg #[(.slice p5 A_a.places.length q6), (.slice p8 A_a.tris.length q9)])) (ev rfl)) ?_; rintro _ w16 ⟨b12, rfl, hb13, hB14, E15⟩
  have g17 : w.heap.size ≤ b12 := Nat.le_trans (Below.size (Ext.refl w)) hb13
  change Blk _ _ [(.slice p5 A_a.places.length q6), (.slice p8 A_a.tris.length q9)] at hB14
  have X18 := Ext.gr (Ext.refl w) E15
  show wpList _ _ _ _ (fr [(.agg #[(.slice p5 A_a.places.length q6), (.slice p8 A_a.tris.length q9)]), (Iv left), (Pt b12 0), Ud, Ud, Ud, Ud, Ud, Ud, Ud, Ud, Ud, Ud, Ud, Ud, Ud, Ud, Ud]) _
  refine q_is (l' := [(.agg #[(.slice p5 A_a.places.length q6), (.slice p8 A_a.tris.length q9)]), (Iv left), (Pt b12 0), Ud, (Iv 0), Ud, Ud, Ud, Ud, Ud, Ud, Ud, Ud, Ud, Ud, Ud, Ud, Ud]) rfl rfl (does_assign (u := (Iv 0)) (ev rfl)) rfl ?_
  refine wpList_nil (hK11 _ _ ?_)
  refine wp_seq_k fun K19 hK19 => ?_
  refine wp_region_lit ?_
  refine q_is (l' := [(.agg #[(.slice p5 A_a.places.length q6), (.slice p8 A_a.tris.length q9)]), (Iv left), (Pt b12 0), Ud, (Iv 0), (Pt b12 0), Ud, Ud, Ud, Ud, Ud, Ud, Ud, Ud, Ud, Ud, Ud, Ud]) rfl rfl (does_fieldAddr (ev rfl) fa25_0) rfl ?_
  refine q_is (l' := [(.agg #[(.slice p5 A_a.places.length q6), (.slice p8 A_a.tris.length q9)]), (Iv left), (Pt b12 0), Ud, (Iv 0), (Pt b12 0), (.slice p5 A_a.places.length q6), Ud, Ud, Ud, Ud, Ud, Ud, Ud, Ud, Ud, Ud, Ud]) rfl rfl (does_load (u := (.slice p5 A_a.places.length q6)) (ev rfl) Try.isAgg22 (Cells.at (Blk.cells hB14) 0 rfl)) rfl ?_
  refine q_is (l' := [(.agg #[(.slice p5 A_a.places.length q6), (.slice p8 A_a.tris.length q9)]), (Iv left), (Pt b12 0), Ud, (Iv 0), (Pt b12 0), (.slice p5 A_a.places.length q6), (Iv left), Ud, Ud, Ud, Ud, Ud, Ud, Ud, Ud, Ud, Ud]) rfl rfl (does_move (u := (Iv left)) (ev rfl)) rfl ?_
  refine seqd rfl rfl (does_call (args := #[(.slice p5 A_a.places.length q6), (Iv left)]) cal20 (evs rfl) (c_laws_szVectorS (.slice p5 A_a.places.length q6) A_a.places left _ (Sl.ext hs7 RV3.mono X18) (by omega) (by omega))) ?_; rintro _ w21 ⟨E20, ⟨i22, rfl, h23⟩⟩
  have X24 := Ext.gr X18 E20
  show wpList _ _ _ _ (fr [(.agg #[(.slice p5 A_a.places.length q6), (.slice p8 A_a.tris.length q9)]), (Iv left), (Pt b12 0), Ud, (Iv 0), (Pt b12 0), (.slice p5 A_a.places.length q6), (Iv left), (Iv i22), Ud, Ud, Ud, Ud, Ud, Ud, Ud, Ud, Ud]) _
  refine q_is (l' := [(.agg #[(.slice p5 A_a.places.length q6), (.slice p8 A_a.tris.length q9)]), (Iv i22), (Pt b12 0), Ud, (Iv 0), (Pt b12 0), (.slice p5 A_a.places.length q6), (Iv left), (Iv i22), Ud, Ud, Ud, Ud, Ud, Ud, Ud, Ud, Ud]) rfl rfl (does_assign (u := (Iv i22)) (ev rfl)) rfl ?_
  refine wpList_nil (hK19 _ _ ?_)
  refine wp_seq_k fun K25 hK25 => ?_
  refine wp_seq_k fun K26 hK26 => ?_
  refine wp_region_lit ?_
  refine q_is (l' := [(.agg #[(.slice p5 A_a.places.length q6), (.slice p8 A_a.tris.length q9)]), (Iv i22), (Pt b12 0), Ud, (Iv 0), (Pt b12 0), (.slice p5 A_a.places.length q6), (Iv left), (Iv i22), (Iv i22), Ud, Ud, Ud, Ud, Ud, Ud, Ud, Ud]) rfl rfl (does_move (u := (Iv i22)) (ev rfl)) rfl ?_
  refine q_is (l' := [(.agg #[(.slice p5 A_a.places.length q6), (.slice p8 A_a.tris.length q9)]), (Iv i22), (Pt b12 0), Ud, (Iv 0), (Pt b12 0), (.slice p5 A_a.places.length q6), (Iv left), (Iv i22), (Iv i22), (Bo (icmp .lss i22 0)), Ud, Ud, Ud, Ud, Ud, Ud, Ud]) rfl rfl (does_icmp (p := i22) (q := 0) (.inr (.inr (.inl rfl))) (ev rfl) (ev rfl)) rfl ?_
  refine wpList_nil (hK26 _ _ ?_)
  refine wp_cond_split (t := icmp .lss i22 0) (ev rfl) (fun c27 => ?_) (fun c27 => ?_)
  · have c27' := c27
    (try simp only [icmp, Bool.and_eq_true, Bool.or_eq_true, Bool.and_eq_false_iff, Bool.or_eq_false_iff, Bool.not_eq_true', Bool.not_eq_false', decide_eq_true_eq, decide_eq_false_iff_not, beq_iff_eq, bne_iff_ne, beq_eq_false_iff_ne, bne_eq_false_iff_eq] at c27')
    refine wp_seq_k fun K28 hK28 => ?_
    refine wp_region_lit ?_
    refine q_is (l' := [(.agg #[(.slice p5 A_a.places.length q6), (.slice p8 A_a.tris.length q9)]), (Iv i22), (Pt b12 0), Ud, (Iv (-1)), (Pt b12 0), (.slice p5 A_a.places.length q6), (Iv left), (Iv i22), (Iv i22), (Bo (icmp .lss i22 0)), Ud, Ud, Ud, Ud, Ud, Ud, Ud]) rfl rfl (does_assign (u := (Iv (-1))) (ev rfl)) rfl ?_
    refine wpList_nil (hK28 _ _ ?_)
    refine wp_ret ?_
    dsimp only [Exit.then, Exit.inBlock]
    refine ret_val (v := (Iv (-1))) (res_T rfl (slot rfl)) X24 ?_
    have x29 : (-1) < 0 ∨ ((meTot A_a : Int) ≤ left ∧ (-1) = left - meTot A_a ∧ 0 ≤ (-1)) := by first | omega | (unfold meTot; omega)
    exact ⟨(-1), rfl, x29⟩
  have c27' := c27
  (try simp only [icmp, Bool.and_eq_true, Bool.or_eq_true, Bool.and_eq_false_iff, Bool.or_eq_false_iff, Bool.not_eq_true', Bool.not_eq_false', decide_eq_true_eq, decide_eq_false_iff_not, beq_iff_eq, bne_iff_ne, beq_eq_false_iff_ne, bne_eq_false_iff_eq] at c27')
  refine wp_skip (hK25 _ _ ?_)
  refine wp_seq_k fun K30 hK30 => ?_
  refine wp_region_lit ?_
  refine q_is (l' := [(.agg #[(.slice p5 A_a.places.length q6), (.slice p8 A_a.tris.length q9)]), (Iv i22), (Pt b12 0), Ud, (Iv 0), (Pt b12 0), (.slice p5 A_a.places.length q6), (Iv left), (Iv i22), (Iv i22), (Bo (icmp .lss i22 0)), (Pt b12 1), Ud, Ud, Ud, Ud, Ud, Ud]) rfl rfl (does_fieldAddr (ev rfl) fa25_1) rfl ?_
  refine q_is (l' := [(.agg #[(.slice p5 A_a.places.length q6), (.slice p8 A_a.tris.length q9)]), (Iv i22), (Pt b12 0), Ud, (Iv 0), (Pt b12 0), (.slice p5 A_a.places.length q6), (Iv left), (Iv i22), (Iv i22), (Bo (icmp .lss i22 0)), (Pt b12 1), (.slice p8 A_a.tris.length q9), Ud, Ud, Ud, Ud, Ud]) rfl rfl (does_load (u := (.slice p8 A_a.tris.length q9)) (ev rfl) Try.isAgg23 (Cells.at (Blk.cells (hB14.ext E20)) 1 rfl)) rfl ?_
  refine q_is (l' := [(.agg #[(.slice p5 A_a.places.length q6), (.slice p8 A_a.tris.length q9)]), (Iv i22), (Pt b12 0), Ud, (Iv 0), (Pt b12 0), (.slice p5 A_a.places.length q6), (Iv left), (Iv i22), (Iv i22), (Bo (icmp .lss i22 0)), (Pt b12 1), (.slice p8 A_a.tris.length q9), (Iv i22), Ud, Ud, Ud, Ud]) rfl rfl (does_move (u := (Iv i22)) (ev rfl)) rfl ?_
  refine seqd rfl rfl (does_call (args := #[(.slice p8 A_a.tris.length q9), (Iv i22)]) cal21 (evs rfl) (c_laws_szInt64SS (.slice p8 A_a.tris.length q9) A_a.tris i22 _ (Sl.ext hs10 (RS.mono RI.mono) X24) (by omega) (by omega))) ?_; rintro _ w32 ⟨E31, ⟨i33, rfl, h34⟩⟩
  have X35 := Ext.gr X24 E31
  show wpList _ _ _ _ (fr [(.agg #[(.slice p5 A_a.places.length q6), (.slice p8 A_a.tris.length q9)]), (Iv i22), (Pt b12 0), Ud, (Iv 0), (Pt b12 0), (.slice p5 A_a.places.length q6), (Iv left), (Iv i22), (Iv i22), (Bo (icmp .lss i22 0)), (Pt b12 1), (.slice p8 A_a.tris.length q9), (Iv i22), (Iv i33), Ud, Ud, Ud]) _
  refine q_is (l' := [(.agg #[(.slice p5 A_a.places.length q6), (.slice p8 A_a.tris.length q9)]), (Iv i33), (Pt b12 0), Ud, (Iv 0), (Pt b12 0), (.slice p5 A_a.places.length q6), (Iv left), (Iv i22), (Iv i22), (Bo (icmp .lss i22 0)), (Pt b12 1), (.slice p8 A_a.tris.length q9), (Iv i22), (Iv i33), Ud, Ud, Ud]) rfl rfl (does_assign (u := (Iv i33)) (ev rfl)) rfl ?_
  refine wpList_nil (hK30 _ _ ?_)
  refine wp_seq_k fun K36 hK36 => ?_
  refine wp_seq_k fun K37 hK37 => ?_
  refine wp_region_lit ?_
  refine q_is (l' := [(.agg #[(.slice p5 A_a.places.length q6), (.slice p8 A_a.tris.length q9)]), (Iv i33), (Pt b12 0), Ud, (Iv 0), (Pt b12 0), (.slice p5 A_a.places.length q6), (Iv left), (Iv i22), (Iv i22), (Bo (icmp .lss i22 0)), (Pt b12 1), (.slice p8 A_a.tris.length q9), (Iv i22), (Iv i33), (Iv i33), Ud, Ud]) rfl rfl (does_move (u := (Iv i33)) (ev rfl)) rfl ?_
  refine q_is (l' := [(.agg #[(.slice p5 A_a.places.length q6), (.slice p8 A_a.tris.length q9)]), (Iv i33), (Pt b12 0), Ud, (Iv 0), (Pt b12 0), (.slice p5 A_a.places.length q6), (Iv left), (Iv i22), (Iv i22), (Bo (icmp .lss i22 0)), (Pt b12 1), (.slice p8 A_a.tris.length q9), (Iv i22), (Iv i33), (Iv i33), (Bo (icmp .lss i33 0)), Ud]) rfl rfl (does_icmp (p := i33) (q := 0) (.inr (.inr (.inl rfl))) (ev rfl) (ev rfl)) rfl ?_
  refine wpList_nil (hK37 _ _ ?_)
  refine wp_cond_split (t := icmp .lss i33 0) (ev rfl) (fun c38 => ?_) (fun c38 => ?_)
  · have c38' := c38
    (try simp only [icmp, Bool.and_eq_true, Bool.or_eq_true, Bool.and_eq_false_iff, Bool.or_eq_false_iff, Bool.not_eq_true', Bool.not_eq_false', decide_eq_true_eq, decide_eq_false_iff_not, beq_iff_eq, bne_iff_ne, beq_eq_false_iff_ne, bne_eq_false_iff_eq] at c38')
    refine wp_seq_k fun K39 hK39 => ?_
    refine wp_region_lit ?_
    refine q_is (l' := [(.agg #[(.slice p5 A_a.places.length q6), (.slice p8 A_a.tris.length q9)]), (Iv i33), (Pt b12 0), Ud, (Iv (-1)), (Pt b12 0), (.slice p5 A_a.places.length q6), (Iv left), (Iv i22), (Iv i22), (Bo (icmp .lss i22 0)), (Pt b12 1), (.slice p8 A_a.tris.length q9), (Iv i22), (Iv i33), (Iv i33), (Bo (icmp .lss i33 0)), Ud]) rfl rfl (does_assign (u := (Iv (-1))) (ev rfl)) rfl ?_
    refine wpList_nil (hK39 _ _ ?_)
    refine wp_ret ?_
    dsimp only [Exit.then, Exit.inBlock]
    refine ret_val (v := (Iv (-1))) (res_T rfl (slot rfl)) X35 ?_
    have x40 : (-1) < 0 ∨ ((meTot A_a : Int) ≤ left ∧ (-1) = left - meTot A_a ∧ 0 ≤ (-1)) := by first | omega | (unfold meTot; omega)
    exact ⟨(-1), rfl, x40⟩
  have c38' := c38
  (try simp only [icmp, Bool.and_eq_true, Bool.or_eq_true, Bool.and_eq_false_iff, Bool.or_eq_false_iff, Bool.not_eq_true', Bool.not_eq_false', decide_eq_true_eq, decide_eq_false_iff_not, beq_iff_eq, bne_iff_ne, beq_eq_false_iff_ne, bne_eq_false_iff_eq] at c38')
  refine wp_skip (hK36 _ _ ?_)
  refine wp_seq_k fun K41 hK41 => ?_
  refine wp_region_lit ?_
  refine q_is (l' := [(.agg #[(.slice p5 A_a.places.length q6), (.slice p8 A_a.tris.length q9)]), (Iv i33), (Pt b12 0), Ud, (Iv 0), (Pt b12 0), (.slice p5 A_a.places.length q6), (Iv left), (Iv i22), (Iv i22), (Bo (icmp .lss i22 0)), (Pt b12 1), (.slice p8 A_a.tris.length q9), (Iv i22), (Iv i33), (Iv i33), (Bo (icmp .lss i33 0)), (Iv i33)]) rfl rfl (does_move (u := (Iv i33)) (ev rfl)) rfl ?_
  refine q_is (l' := [(.agg #[(.slice p5 A_a.places.length q6), (.slice p8 A_a.tris.length q9)]), (Iv i33), (Pt b12 0), Ud, (Iv i33), (Pt b12 0), (.slice p5 A_a.places.length q6), (Iv left), (Iv i22), (Iv i22), (Bo (icmp .lss i22 0)), (Pt b12 1), (.slice p8 A_a.tris.length q9), (Iv i22), (Iv i33), (Iv i33), (Bo (icmp .lss i33 0)), (Iv i33)]) rfl rfl (does_assign (u := (Iv i33)) (ev rfl)) rfl ?_
  refine wpList_nil (hK41 _ _ ?_)
  refine wp_ret ?_
  refine ret_val (v := (Iv i33)) (res_T rfl (slot rfl)) X35 ?_
  have x42 : i33 < 0 ∨ ((meTot A_a : Int) ≤ left ∧ i33 = left - meTot A_a ∧ 0 ≤ i33) := by first | omega | (unfold meTot; omega)
  exact ⟨i33, rfl, x42⟩

/- spec.l00In -/
theorem c_spec_l00In (n : Int) (low : Int) (high : Int) (w : World) : Gives Try.prog 47 #[(Iv n), (Iv low), (Iv high)] w (fun v w' => v = (Bo (inI n low high))) := by
  refine enter [(Iv n), (Iv low), (Iv high), Ud, Ud, Ud, Ud, Ud, Ud, Ud, Ud, Ud, Ud, Ud, Ud] Try.func47 rfl Try.ntmps47 rfl ?_
  refine wp_seq_k fun K1 hK1 => ?_
  refine wp_region_lit ?_
  refine q_is (l' := [(Iv n), (Iv low), (Iv high), Ud, Ud, Ud, (Bo false), Ud, Ud, Ud, Ud, Ud, Ud, Ud, Ud]) rfl rfl (does_assign (u := (Bo false)) (ev rfl)) rfl ?_
  refine wpList_nil (hK1 _ _ ?_)
  refine wp_seq_k fun K2 hK2 => ?_
  obtain ⟨β1, hβ1⟩ : ∃ b : Bool, b = ((icmp .geq n low) && (icmp .leq n high)) := ⟨_, rfl⟩
  refine region_text (
    [Fact.pure [] (fun v => v = (Iv n)),
    Fact.pure [] (fun v => v = (Iv low)),
    Fact.pure [7, 8] (fun v => v = (Bo (icmp .geq n low))),
    Fact.pure [9] (fun v => v = (Bo (icmp .geq n low))),
    Fact.pure [10] (fun v => (icmp .geq n low) = true → v = (Iv n)),
    Fact.pure [10] (fun v => (icmp .geq n low) = true → v = (Iv high)),
    Fact.pure [11, 12, 10] (fun v => (icmp .geq n low) = true → v = (Bo (icmp .leq n high))),
    Fact.pure [10, 13] (fun v => v = (Bo β1))]) (by simp [Fact.pure, Fact.mem]) ?_
  refine RW_d (fun v3 => [(Iv n), (Iv low), (Iv high), Ud, Ud, Ud, (Bo false), v3, Ud, Ud, Ud, Ud, Ud, Ud, Ud]) rfl (fun _ => rfl) (fun u hu hF => ?_) (fun v3 => ?_)
  · clear hF
    refine doesG_un rfl ?_
    refine (does_move (u := (Iv n)) (ev rfl)).mono ?_; rintro _ _ ⟨rfl, rfl⟩
    exact ⟨rfl, Ext.refl _⟩
  refine RW_d (fun v4 => [(Iv n), (Iv low), (Iv high), Ud, Ud, Ud, (Bo false), v3, v4, Ud, Ud, Ud, Ud, Ud, Ud]) rfl (fun _ => rfl) (fun u hu hF => ?_) (fun v4 => ?_)
  · clear hF
    refine doesG_un rfl ?_
    refine (does_move (u := (Iv low)) (ev rfl)).mono ?_; rintro _ _ ⟨rfl, rfl⟩
    exact ⟨rfl, Ext.refl _⟩
  refine RW_d (fun v5 => [(Iv n), (Iv low), (Iv high), Ud, Ud, Ud, (Bo false), v3, v4, v5, Ud, Ud, Ud, Ud, Ud]) rfl (fun _ => rfl) (fun u hu hF => ?_) (fun v5 => ?_)
  · have h7_ : v3 = (Iv n) := hF.1
    have h8_ : v4 = (Iv low) := hF.2.1
    clear hF
    refine doesG_un rfl ?_
    obtain rfl := h7_
    obtain rfl := h8_
    refine (does_icmp (p := n) (q := low) (.inr (.inr (.inr (.inr (.inr rfl))))) (ev rfl) (ev rfl)).mono ?_; rintro _ _ ⟨rfl, rfl⟩
    exact ⟨rfl, Ext.refl _⟩
  refine RW_d (fun v6 => [(Iv n), (Iv low), (Iv high), Ud, Ud, Ud, (Bo false), v3, v4, v5, v6, Ud, Ud, Ud, Ud]) rfl (fun _ => rfl) (fun u hu hF => ?_) (fun v6 => ?_)
  · have h9_ : v5 = (Bo (icmp .geq n low)) := hF.1
    clear hF
    refine doesG_un rfl ?_
    obtain rfl := h9_
    refine (does_move (u := (Bo (icmp .geq n low))) (ev rfl)).mono ?_; rintro _ _ ⟨rfl, rfl⟩
    exact ⟨rfl, Ext.refl _⟩
  refine RW_d (fun v7 => [(Iv n), (Iv low), (Iv high), Ud, Ud, Ud, (Bo false), v3, v4, v5, v6, v7, Ud, Ud, Ud]) rfl (fun _ => rfl) (fun u hu hF => ?_) (fun v7 => ?_)
  · have h10_ : v6 = (Bo (icmp .geq n low)) := hF.1
    clear hF
    obtain rfl := h10_
    refine doesG_g (b := (icmp .geq n low)) rfl (yld rfl rfl) (fun hg1 => ?_) (fun hc => ⟨fun hg1 => absurd hg1 hc, Ext.refl _⟩)
    refine (does_move (u := (Iv n)) (ev rfl)).mono ?_; rintro _ _ ⟨rfl, rfl⟩
    exact ⟨fun _ => rfl, Ext.refl _⟩
  refine RW_d (fun v8 => [(Iv n), (Iv low), (Iv high), Ud, Ud, Ud, (Bo false), v3, v4, v5, v6, v7, v8, Ud, Ud]) rfl (fun _ => rfl) (fun u hu hF => ?_) (fun v8 => ?_)
  · have h10_ : v6 = (Bo (icmp .geq n low)) := hF.1
    clear hF
    obtain rfl := h10_
    refine doesG_g (b := (icmp .geq n low)) rfl (yld rfl rfl) (fun hg1 => ?_) (fun hc => ⟨fun hg1 => absurd hg1 hc, Ext.refl _⟩)
    refine (does_move (u := (Iv high)) (ev rfl)).mono ?_; rintro _ _ ⟨rfl, rfl⟩
    exact ⟨fun _ => rfl, Ext.refl _⟩
  refine RW_d (fun v9 => [(Iv n), (Iv low), (Iv high), Ud, Ud, Ud, (Bo false), v3, v4, v5, v6, v7, v8, v9, Ud]) rfl (fun _ => rfl) (fun u hu hF => ?_) (fun v9 => ?_)
  · have h11_ : (icmp .geq n low) = true → v7 = (Iv n) := hF.1
    have h12_ : (icmp .geq n low) = true → v8 = (Iv high) := hF.2.1
    have h10_ : v6 = (Bo (icmp .geq n low)) := hF.2.2.1
    clear hF
    obtain rfl := h10_
    refine doesG_g (b := (icmp .geq n low)) rfl (yld rfl rfl) (fun hg1 => ?_) (fun hc => ⟨fun hg1 => absurd hg1 hc, Ext.refl _⟩)
    obtain rfl := h11_ hg1
    obtain rfl := h12_ hg1
    refine (does_icmp (p := n) (q := high) (.inr (.inr (.inr (.inl rfl)))) (ev rfl) (ev rfl)).mono ?_; rintro _ _ ⟨rfl, rfl⟩
    exact ⟨fun _ => rfl, Ext.refl _⟩
  refine RW_d (fun v10 => [(Iv n), (Iv low), (Iv high), Ud, Ud, Ud, (Bo false), v3, v4, v5, v6, v7, v8, v9, v10]) rfl (fun _ => rfl) (fun u hu hF => ?_) (fun v10 => ?_)
  · have h10_ : v6 = (Bo (icmp .geq n low)) := hF.1
    have h13_ : (icmp .geq n low) = true → v9 = (Bo (icmp .leq n high)) := hF.2.1
    clear hF
    refine doesG_un rfl ?_
    skip
    obtain rfl := h10_
    refine (does_pick (b := (icmp .geq n low)) (u := v9) (v := (Bo false)) (ev rfl) (ev rfl) (ev rfl)).mono ?_; rintro _ _ ⟨rfl, rfl⟩; refine ⟨?_, Ext.refl _⟩; rw [hβ1]; skip
    cases hbb : (icmp .geq n low)
    all_goals first | (show _ = _; simp only [↓reduceIte, Bool.true_and, Bool.false_and, Bool.true_or, Bool.false_or, Bool.false_eq_true]; done) | (have e_ := h13_ hbb; subst e_; show _ = _; simp only [↓reduceIte, Bool.true_and, Bool.false_and, Bool.true_or, Bool.false_or, Bool.false_eq_true]; done) | rfl | (have e_ := h13_ hbb; subst e_; rfl) | (simp [hbb] at h13_ ⊢; first | done | rfl | (subst h13_; rfl) | simp_all) | (simp [hbb] at h13_ ⊢; done)
  refine RW_fin ?_; intro w11 E12 hP13
  obtain ⟨⟨⟨⟨⟨⟨⟨⟨-, -⟩, -⟩, -⟩, -⟩, -⟩, -⟩, -⟩, q14⟩ := hP13
  have X15 := Ext.gr (Ext.refl w) E12
  have q14 : v10 = (Bo β1) := q14
  obtain rfl := q14
  show wpList _ _ _ _ (fr [(Iv n), (Iv low), (Iv high), Ud, Ud, Ud, (Bo false), v3, v4, v5, v6, v7, v8, v9, (Bo β1)]) _
  refine q_is (l' := [(Iv n), (Iv low), (Iv high), Ud, Ud, Ud, (Bo β1), v3, v4, v5, v6, v7, v8, v9, (Bo β1)]) rfl rfl (does_assign (u := (Bo β1)) (ev rfl)) rfl ?_
  refine wpList_nil (hK2 _ _ ?_)
  refine wp_ret ?_
  refine ret_val (v := (Bo β1)) (res_T rfl (slot rfl)) X15 ?_
  have x16 : (inI n low high) = β1 := by first | with_reducible rfl | (simp only [inI, hβ1]; done) | (simp [inI, hβ1]; done) | rfl
  exact (by first | with_reducible rfl | rw [x16] | rfl)

/- spec.l07Is -/
theorem c_spec_l07Is (m_b : Nat) (m_o : Nat) (m : List Value) (A_m : MeshT) (w : World) (hc_m : Cells w m_b m_o m) (hv_m : RMeshT w A_m m) : Gives Try.prog 22 #[(Pt m_b m_o)] w (fun v w' => v = (Bo (meshOk A_m))) := by
  obtain ⟨y1, y3, rfl, h2, h4⟩ := hv_m
  have hs7 := h2; have hs7l := Sl.len h2; obtain ⟨p5, q6, rfl⟩ := Sl.shape h2
  have hs10 := h4; have hs10l := Sl.len h4; obtain ⟨p8, q9, rfl⟩ := Sl.shape h4
  refine enter [(Pt m_b m_o), Ud, Ud, Ud, Ud, Ud, Ud, Ud, Ud, Ud, Ud, Ud, Ud, Ud, Ud, Ud, Ud, Ud, Ud, Ud, Ud, Ud, Ud, Ud, Ud, Ud, Ud, Ud, Ud, Ud, Ud, Ud, Ud, Ud, Ud, Ud, Ud, Ud, Ud, Ud, Ud, Ud, Ud, Ud, Ud, Ud, Ud, Ud, Ud, Ud, Ud, Ud, Ud, Ud, Ud, Ud, Ud, Ud, Ud, Ud, Ud, Ud, Ud, Ud, Ud, Ud, Ud, Ud, Ud, Ud, Ud, Ud, Ud, Ud, Ud, Ud, Ud, Ud, Ud, Ud, Ud, Ud, Ud, Ud, Ud, Ud, Ud, Ud, Ud, Ud, Ud, Ud, Ud, Ud] Try.func22 rfl Try.ntmps22 rfl ?_
  refine wp_seq_k fun K11 hK11 => ?_
  refine wp_region_lit ?_
  refine q_is rfl rfl (does_assign (u := (Bo false)) (ev rfl)) (by dsimp only [List.set]; try rfl) ?_
  refine wpList_nil (hK11 _ _ ?_)
  refine wp_seq_k fun K12 hK12 => ?_
  refine wp_region_lit ?_
  refine q_is rfl rfl (does_move (u := (Pt m_b m_o)) (ev rfl)) (by dsimp only [List.set]; try rfl) ?_
  refine q_is rfl rfl (does_nilCheck (ev rfl)) (by dsimp only [List.set]; try rfl) ?_
  refine q_is rfl rfl (does_fieldAddr (ev rfl) fa32_0) (by dsimp only [List.set]; try rfl) ?_
  refine q_is rfl rfl (does_load (u := (.slice p5 A_m.places.length q6)) (ev rfl) Try.isAgg30 (Cells.at hc_m 0 rfl)) (by dsimp only [List.set]; try rfl) ?_
  refine q_is rfl rfl (does_len_slice Try.underlying30 (ev rfl)) (by dsimp only [List.set]; try rfl) ?_
  refine q_is rfl rfl (does_assign (u := (Iv (A_m.places.length : Int))) (ev rfl)) (by dsimp only [List.set]; try rfl) ?_
  refine wpList_nil (hK12 _ _ ?_)
  refine wp_seq_k fun K13 hK13 => ?_
  refine wp_seq_k fun K14 hK14 => ?_
  obtain ⟨β1, hβ1⟩ : ∃ b : Bool, b = (icmp .gtr (A_m.places.length : Int) 8192) := ⟨_, rfl⟩
  obtain ⟨β2, hβ2⟩ : ∃ b : Bool, b = (icmp .gtr (A_m.tris.length : Int) 9000) := ⟨_, rfl⟩
  refine region_text (
    [Fact.pure [] (fun v => v = (Iv (A_m.places.length : Int))),
    Fact.pure [11] (fun v => v = (Bo β1)),
    Fact.pure [12] (fun v => v = (Bo β1)),
    Fact.pure [13] (fun v => β1 = false → v = (Pt m_b m_o)),
    Fact.pure [14, 13] (fun v => β1 = false → v = (Pt m_b m_o)),
    Fact.pure [15, 13] (fun v => β1 = false → v = (Pt m_b (m_o + 1))),
    Fact.pure [16, 13] (fun v => β1 = false → v = (.slice p8 A_m.tris.length q9)),
    Fact.pure [17, 13] (fun v => β1 = false → v = (Iv (A_m.tris.length : Int))),
    Fact.pure [18, 13] (fun v => β1 = false → v = (Bo β2)),
    Fact.pure [13, 19] (fun v => v = (Bo (β1 || β2)))]) (by simp [Fact.pure, Fact.mem]) ?_
  refine RW_d _ rfl (fun v => by dsimp only [List.set]; try rfl) (fun u hu hF => ?_) (fun v15 => ?_)
  · clear hF
    refine doesG_un rfl ?_
    refine (does_move (u := (Iv (A_m.places.length : Int))) (ev rfl)).mono ?_; rintro _ _ ⟨rfl, rfl⟩
    exact ⟨rfl, Ext.refl _⟩
  refine RW_d _ rfl (fun v => by dsimp only [List.set]; try rfl) (fun u hu hF => ?_) (fun v16 => ?_)
  · have h11_ : v15 = (Iv (A_m.places.length : Int)) := hF.1
    clear hF
    refine doesG_un rfl ?_
    obtain rfl := h11_
    refine (does_icmp (p := (A_m.places.length : Int)) (q := 8192) (.inr (.inr (.inr (.inr (.inl rfl))))) (ev rfl) (ev rfl)).mono ?_; rintro _ _ ⟨rfl, rfl⟩
    exact ⟨(by first | rfl | (show _ = _; simp only [hβ1]; done) | (show _ = _; simp only [hβ1]; rfl)), Ext.refl _⟩
  refine RW_d _ rfl (fun v => by dsimp only [List.set]; try rfl) (fun u hu hF => ?_) (fun v17 => ?_)
  · have h12_ : v16 = (Bo β1) := hF.1
    clear hF
    refine doesG_un rfl ?_
    obtain rfl := h12_
    refine (does_move (u := (Bo β1)) (ev rfl)).mono ?_; rintro _ _ ⟨rfl, rfl⟩
    exact ⟨rfl, Ext.refl _⟩
  refine RW_d _ rfl (fun v => by dsimp only [List.set]; try rfl) (fun u hu hF => ?_) (fun v18 => ?_)
  · have h13_ : v17 = (Bo β1) := hF.1
    clear hF
    obtain rfl := h13_
    refine doesG_g (b := β1) rfl (yld rfl rfl) (fun hg1 => ?_) (fun hc => ⟨fun hg1 => absurd hg1 hc, Ext.refl _⟩)
    refine (does_move (u := (Pt m_b m_o)) (ev rfl)).mono ?_; rintro _ _ ⟨rfl, rfl⟩
    exact ⟨fun _ => rfl, Ext.refl _⟩
  refine RW_d _ rfl (fun v => by dsimp only [List.set]; try rfl) (fun u hu hF => ?_) (fun v19 => ?_)
  · have h14_ : β1 = false → v18 = (Pt m_b m_o) := hF.1
    have h13_ : v17 = (Bo β1) := hF.2.1
    clear hF
    obtain rfl := h13_
    refine doesG_g (b := β1) rfl (yld rfl rfl) (fun hg1 => ?_) (fun hc => ⟨fun hg1 => absurd hg1 hc, Ext.refl _⟩)
    obtain rfl := h14_ hg1
    refine (does_nilCheck (ev rfl)).mono ?_; rintro _ _ ⟨rfl, rfl⟩
    exact ⟨fun _ => rfl, Ext.refl _⟩
  refine RW_d _ rfl (fun v => by dsimp only [List.set]; try rfl) (fun u hu hF => ?_) (fun v20 => ?_)
  · have h15_ : β1 = false → v19 = (Pt m_b m_o) := hF.1
    have h13_ : v17 = (Bo β1) := hF.2.1
    clear hF
    obtain rfl := h13_
    refine doesG_g (b := β1) rfl (yld rfl rfl) (fun hg1 => ?_) (fun hc => ⟨fun hg1 => absurd hg1 hc, Ext.refl _⟩)
    obtain rfl := h15_ hg1
    refine (does_fieldAddr (ev rfl) fa32_1).mono ?_; rintro _ _ ⟨rfl, rfl⟩
    exact ⟨fun _ => rfl, Ext.refl _⟩
  refine RW_d _ rfl (fun v => by dsimp only [List.set]; try rfl) (fun u hu hF => ?_) (fun v21 => ?_)
  · have h16_ : β1 = false → v20 = (Pt m_b (m_o + 1)) := hF.1
    have h13_ : v17 = (Bo β1) := hF.2.1
    clear hF
    obtain rfl := h13_
    refine doesG_g (b := β1) rfl (yld rfl rfl) (fun hg1 => ?_) (fun hc => ⟨fun hg1 => absurd hg1 hc, Ext.refl _⟩)
    obtain rfl := h16_ hg1
    refine (does_load (u := (.slice p8 A_m.tris.length q9)) (ev rfl) Try.isAgg23 (Cells.at (hc_m.ext hu) 1 rfl)).mono ?_; rintro _ _ ⟨rfl, rfl⟩
    exact ⟨fun _ => rfl, Ext.refl _⟩
  refine RW_d _ rfl (fun v => by dsimp only [List.set]; try rfl) (fun u hu hF => ?_) (fun v22 => ?_)
  · have h17_ : β1 = false → v21 = (.slice p8 A_m.tris.length q9) := hF.1
    have h13_ : v17 = (Bo β1) := hF.2.1
    clear hF
    obtain rfl := h13_
    refine doesG_g (b := β1) rfl (yld rfl rfl) (fun hg1 => ?_) (fun hc => ⟨fun hg1 => absurd hg1 hc, Ext.refl _⟩)
    obtain rfl := h17_ hg1
    refine (does_len_slice Try.underlying23 (ev rfl)).mono ?_; rintro _ _ ⟨rfl, rfl⟩
    exact ⟨fun _ => rfl, Ext.refl _⟩
  refine RW_d _ rfl (fun v => by dsimp only [List.set]; try rfl) (fun u hu hF => ?_) (fun v23 => ?_)
  · have h18_ : β1 = false → v22 = (Iv (A_m.tris.length : Int)) := hF.1
    have h13_ : v17 = (Bo β1) := hF.2.1
    clear hF
    obtain rfl := h13_
    refine doesG_g (b := β1) rfl (yld rfl rfl) (fun hg1 => ?_) (fun hc => ⟨fun hg1 => absurd hg1 hc, Ext.refl _⟩)
    obtain rfl := h18_ hg1
    refine (does_icmp (p := (A_m.tris.length : Int)) (q := 9000) (.inr (.inr (.inr (.inr (.inl rfl))))) (ev rfl) (ev rfl)).mono ?_; rintro _ _ ⟨rfl, rfl⟩
    exact ⟨fun _ => (by first | rfl | (show _ = _; simp only [hβ2]; done) | (show _ = _; simp only [hβ2]; rfl)), Ext.refl _⟩
  refine RW_d _ rfl (fun v => by dsimp only [List.set]; try rfl) (fun u hu hF => ?_) (fun v24 => ?_)
  · have h13_ : v17 = (Bo β1) := hF.1
    have h19_ : β1 = false → v23 = (Bo β2) := hF.2.1
    clear hF
    refine doesG_un rfl ?_
    skip
    obtain rfl := h13_
    refine (does_pick (b := β1) (u := (Bo true)) (v := v23) (ev rfl) (ev rfl) (ev rfl)).mono ?_; rintro _ _ ⟨rfl, rfl⟩; refine ⟨?_, Ext.refl _⟩; skip
    cases hbb : β1
    all_goals first | (show _ = _; simp only [↓reduceIte, Bool.true_and, Bool.false_and, Bool.true_or, Bool.false_or, Bool.false_eq_true]; done) | (have e_ := h19_ hbb; subst e_; show _ = _; simp only [↓reduceIte, Bool.true_and, Bool.false_and, Bool.true_or, Bool.false_or, Bool.false_eq_true]; done) | rfl | (have e_ := h19_ hbb; subst e_; rfl) | (simp [hbb] at h19_ ⊢; first | done | rfl | (subst h19_; rfl) | simp_all) | (simp [hbb] at h19_ ⊢; done)
  refine RW_fin ?_; intro w25 E26 hP27
  obtain ⟨⟨⟨⟨⟨⟨⟨⟨⟨⟨-, -⟩, -⟩, -⟩, -⟩, -⟩, -⟩, -⟩, -⟩, -⟩, q28⟩ := hP27
  have X29 := Ext.gr (Ext.refl w) E26
  have q28 : v24 = (Bo (β1 || β2)) := q28
  obtain rfl := q28
  show wpList _ _ _ _ (fr [_, _, _, _, _, _, _, _, _, _, _, _, _, _, _, _, _, _, _, _, _, _, _, _, _, _, _, _, _, _, _, _, _, _, _, _, _, _, _, _, _, _, _, _, _, _, _, _, _, _, _, _, _, _, _, _, _, _, _, _, _, _, _, _, _, _, _, _, _, _, _, _, _, _, _, _, _, _, _, _, _, _, _, _, _, _, _, _, _, _, _, _, _, _]) _
  refine wpList_nil (hK14 _ _ ?_)
  refine wp_cond_split (t := β1 || β2) (ev rfl) (fun c30 => ?_) (fun c30 => ?_)
  · have c30' := c30
    (try simp only [hβ1, hβ2] at c30')
    (try simp only [icmp, Bool.and_eq_true, Bool.or_eq_true, Bool.and_eq_false_iff, Bool.or_eq_false_iff, Bool.not_eq_true', Bool.not_eq_false', decide_eq_true_eq, decide_eq_false_iff_not, beq_iff_eq, bne_iff_ne, beq_eq_false_iff_ne, bne_eq_false_iff_eq] at c30')
    refine wp_seq_k fun K31 hK31 => ?_
    refine wp_region_lit ?_
    refine q_is rfl rfl (does_assign (u := (Bo false)) (ev rfl)) (by dsimp only [List.set]; try rfl) ?_
    refine wpList_nil (hK31 _ _ ?_)
    refine wp_ret ?_
    dsimp only [Exit.then, Exit.inBlock]
    refine ret_val (v := (Bo false)) (res_T rfl (slot rfl)) X29 ?_
    try simp only [hβ1, hβ2] at c30
    have x32 : (meshOk A_m) = false := by first | exact meshOk_big (by assumption) | exact meshOk_bad (by assumption) (triS_bad (by assumption) (by assumption) (by assumption) (by assumption)) | exact meshOk_ok (by assumption) hal (by omega)
    exact (by first | with_reducible rfl | rw [x32] | rfl)
  have c30' := c30
  (try simp only [hβ1, hβ2] at c30')
  (try simp only [icmp, Bool.and_eq_true, Bool.or_eq_true, Bool.and_eq_false_iff, Bool.or_eq_false_iff, Bool.not_eq_true', Bool.not_eq_false', decide_eq_true_eq, decide_eq_false_iff_not, beq_iff_eq, bne_iff_ne, beq_eq_false_iff_ne, bne_eq_false_iff_eq] at c30')
  refine wp_skip (hK13 _ _ ?_)
  refine wp_seq_k fun K33 hK33 => ?_
  refine wp_seq_k fun K34 hK34 => ?_
  refine wp_region_lit ?_
  refine q_is rfl rfl (does_move (u := (Pt m_b m_o)) (ev rfl)) (by dsimp only [List.set]; try rfl) ?_
  refine q_is rfl rfl (does_nilCheck (ev rfl)) (by dsimp only [List.set]; try rfl) ?_
  refine q_is rfl rfl (does_fieldAddr (ev rfl) fa32_1) (by dsimp only [List.set]; try rfl) ?_
  refine q_is rfl rfl (does_load (u := (.slice p8 A_m.tris.length q9)) (ev rfl) Try.isAgg23 (Cells.at (hc_m.ext X29) 1 rfl)) (by dsimp only [List.set]; try rfl) ?_
  refine q_is rfl rfl (does_len_slice Try.underlying23 (ev rfl)) (by dsimp only [List.set]; try rfl) ?_
  refine q_is rfl rfl (does_move (u := (Iv 0)) (ev rfl)) (by dsimp only [List.set]; try rfl) ?_
  refine wpList_nil (hK34 _ _ ?_)
  refine wp_block ?_
  refine loop_ghost (σ := Nat) (fun k a w' => ∃ u35 : Nat → Value, a = fr [(Pt m_b m_o), Ud, (u35 2), (Iv (A_m.places.length : Int)), (u35 4), (u35 5), (Pt m_b m_o), (Pt m_b m_o), (Pt m_b m_o), (.slice p5 A_m.places.length q6), (Iv (A_m.places.length : Int)), v15, v16, v17, v18, v19, v20, v21, v22, v23, (Bo (β1 || β2)), (Pt m_b m_o), (Pt m_b m_o), (Pt m_b (m_o + 1)), (.slice p8 A_m.tris.length q9), (Iv (A_m.tris.length : Int)), (Iv (k : Int)), (u35 27), (u35 28), (u35 29), (u35 30), (u35 31), (u35 32), (u35 33), (u35 34), (u35 35), (u35 36), (u35 37), (u35 38), (u35 39), (u35 40), (u35 41), (u35 42), (u35 43), (u35 44), (u35 45), (u35 46), (u35 47), (u35 48), (u35 49), (u35 50), (u35 51), (u35 52), (u35 53), (u35 54), (u35 55), (u35 56), (u35 57), (u35 58), (u35 59), (u35 60), (u35 61), (u35 62), (u35 63), (u35 64), (u35 65), (u35 66), (u35 67), (u35 68), (u35 69), (u35 70), (u35 71), (u35 72), (u35 73), (u35 74), (u35 75), (u35 76), (u35 77), (u35 78), (u35 79), (u35 80), (u35 81), (u35 82), (u35 83), (u35 84), (u35 85), (u35 86), (u35 87), (u35 88), (u35 89), (u35 90), (u35 91), (u35 92), (u35 93)] ∧ Ext w25 w' ∧ (k ≤ A_m.tris.length ∧ AllTo (triOk A_m.places.length) A_m.tris k)) (fun k => A_m.tris.length - k) 0 ?_ ?_
  · refine ⟨fun t => (([(Pt m_b m_o), Ud, (Bo false), (Iv (A_m.places.length : Int)), Ud, Ud, (Pt m_b m_o), (Pt m_b m_o), (Pt m_b m_o), (.slice p5 A_m.places.length q6), (Iv (A_m.places.length : Int)), v15, v16, v17, v18, v19, v20, v21, v22, v23, (Bo (β1 || β2)), (Pt m_b m_o), (Pt m_b m_o), (Pt m_b (m_o + 1)), (.slice p8 A_m.tris.length q9), (Iv (A_m.tris.length : Int)), (Iv 0), Ud, Ud, Ud, Ud, Ud, Ud, Ud, Ud, Ud, Ud, Ud, Ud, Ud, Ud, Ud, Ud, Ud, Ud, Ud, Ud, Ud, Ud, Ud, Ud, Ud, Ud, Ud, Ud, Ud, Ud, Ud, Ud, Ud, Ud, Ud, Ud, Ud, Ud, Ud, Ud, Ud, Ud, Ud, Ud, Ud, Ud, Ud, Ud, Ud, Ud, Ud, Ud, Ud, Ud, Ud, Ud, Ud, Ud, Ud, Ud, Ud, Ud, Ud, Ud, Ud, Ud, Ud] : List Value)[t]?).getD undef, rfl, Ext.refl _, ?_⟩
    exact ⟨Nat.zero_le _, AllTo.zero⟩
  · rintro k a w36 ⟨u35, rfl, E37, ⟨hk, hal⟩⟩
    have X39 := Ext.gr X29 E37
    refine wp_seq_k fun K40 hK40 => ?_
    refine wp_region_lit ?_
    refine q_is rfl rfl (does_icmp (p := (k : Int)) (q := (A_m.tris.length : Int)) (.inr (.inr (.inl rfl))) (ev rfl) (ev rfl)) (by dsimp only [List.set]; try rfl) ?_
    refine wpList_nil (hK40 _ _ ?_)
    refine wp_seq_k fun K41 hK41 => ?_
    refine wp_cond_split (t := icmp .lss (k : Int) (A_m.tris.length : Int)) (ev rfl) (fun c42 => ?_) (fun c42 => ?_)
    · have c42' := c42
      (try simp only [hβ1, hβ2] at c42')
      (try simp only [icmp, Bool.and_eq_true, Bool.or_eq_true, Bool.and_eq_false_iff, Bool.or_eq_false_iff, Bool.not_eq_true', Bool.not_eq_false', decide_eq_true_eq, decide_eq_false_iff_not, beq_iff_eq, bne_iff_ne, beq_eq_false_iff_ne, bne_eq_false_iff_eq] at c42')
      refine wp_skip (hK41 _ _ ?_)
      refine wp_seq_k fun K43 hK43 => ?_
      refine wp_block ?_
      refine wp_seq_k fun K44 hK44 => ?_
      refine wp_region_lit ?_
      refine q_is rfl rfl (does_move (u := (Iv (k : Int))) (ev rfl)) (by dsimp only [List.set]; try rfl) ?_
      refine q_is rfl rfl (does_assign (u := (Iv (k : Int))) (ev rfl)) (by dsimp only [List.set]; try rfl) ?_
      refine wpList_nil (hK44 _ _ ?_)
      refine wp_seq_k fun K45 hK45 => ?_
      refine wp_region_lit ?_
      refine q_is rfl rfl (does_move (u := (Pt m_b m_o)) (ev rfl)) (by dsimp only [List.set]; try rfl) ?_
      refine q_is rfl rfl (does_nilCheck (ev rfl)) (by dsimp only [List.set]; try rfl) ?_
      refine q_is rfl rfl (does_fieldAddr (ev rfl) fa32_1) (by dsimp only [List.set]; try rfl) ?_
      refine q_is rfl rfl (does_load (u := (.slice p8 A_m.tris.length q9)) (ev rfl) Try.isAgg23 (Cells.at (hc_m.ext X39) 1 rfl)) (by dsimp only [List.set]; try rfl) ?_
      refine q_is rfl rfl (does_move (u := (Iv (k : Int))) (ev rfl)) (by dsimp only [List.set]; try rfl) ?_
      obtain ⟨el1, hel1⟩ : ∃ e, A_m.tris[k]? = some e := ⟨_, List.getElem?_eq_getElem (by omega)⟩
      refine seqd rfl rfl (does_indexSl (R := (RS RI 1)) (i := (k : Int)) (xs := A_m.tris) (e := el1) Try.underlying23 Try.sizeOf27 (ev rfl) (ev rfl) (Sl.ext hs10 (RS.mono RI.mono) X39) (by omega) hel1) ?_; rintro _ w36 ⟨b46, o47, _, rfl, hc49, ⟨y50, rfl, h51⟩, rfl⟩
      have hs54 := h51; have hs54l := Sl.len h51; obtain ⟨p52, q53, rfl⟩ := Sl.shape h51
      show wpList _ _ _ _ (fr [_, _, _, _, _, _, _, _, _, _, _, _, _, _, _, _, _, _, _, _, _, _, _, _, _, _, _, _, _, _, _, _, _, _, _, _, _, _, _, _, _, _, _, _, _, _, _, _, _, _, _, _, _, _, _, _, _, _, _, _, _, _, _, _, _, _, _, _, _, _, _, _, _, _, _, _, _, _, _, _, _, _, _, _, _, _, _, _, _, _, _, _, _, _]) _
      refine q_is rfl rfl (does_load (u := (.slice p52 el1.length q53)) (ev rfl) Try.isAgg27 (Cells.at hc49 0 rfl)) (by dsimp only [List.set]; try rfl) ?_
      refine q_is rfl rfl (does_assign (u := (.slice p52 el1.length q53)) (ev rfl)) (by dsimp only [List.set]; try rfl) ?_
      refine wpList_nil (hK45 _ _ ?_)
      refine wp_seq_k fun K55 hK55 => ?_
      obtain ⟨β3, hβ3⟩ : ∃ b : Bool, b = (icmp .neq (el1.length : Int) 3) := ⟨_, rfl⟩
      obtain ⟨el2, hel2⟩ := exists_el (0 : Int) el1 0
      obtain ⟨β4, hβ4⟩ : ∃ b : Bool, b = (inI el2 0 (IntKind.i64.wrap ((A_m.places.length : Int) - 1))) := ⟨_, rfl⟩
      obtain ⟨el3, hel3⟩ := exists_el (0 : Int) el1 1
      obtain ⟨β5, hβ5⟩ : ∃ b : Bool, b = (inI el3 0 (IntKind.i64.wrap ((A_m.places.length : Int) - 1))) := ⟨_, rfl⟩
      obtain ⟨el4, hel4⟩ := exists_el (0 : Int) el1 2
      obtain ⟨β6, hβ6⟩ : ∃ b : Bool, b = (inI el4 0 (IntKind.i64.wrap ((A_m.places.length : Int) - 1))) := ⟨_, rfl⟩
      obtain ⟨β7, hβ7⟩ : ∃ b : Bool, b = (((β3 || (!β4)) || (!β5)) || (!β6)) := ⟨_, rfl⟩
      obtain ⟨β8, hβ8⟩ : ∃ b : Bool, b = (β7 || (icmp .eql el2 el3)) := ⟨_, rfl⟩
      obtain ⟨β9, hβ9⟩ : ∃ b : Bool, b = (β8 || (icmp .eql el3 el4)) := ⟨_, rfl⟩
      obtain ⟨β10, hβ10⟩ : ∃ b : Bool, b = (β9 || (icmp .eql el4 el2)) := ⟨_, rfl⟩
      refine region_draw (
        [Fact.pure [] (fun v => v = (.slice p52 el1.length q53)),
    Fact.pure [36] (fun v => v = (Iv (el1.length : Int))),
    Fact.pure [37] (fun v => v = (Bo β3)),
    Fact.pure [38] (fun v => v = (Bo β3)),
    Fact.pure [39] (fun v => β3 = false → v = (.slice p52 el1.length q53)),
    Fact.mem [40, 39] (fun v w' => β3 = false → PtrR RI w' v el2) (by intro v w1 w2 hx h; exact fun hg1 => (h hg1).ext RI.mono hx),
    Fact.pure [41, 39] (fun v => β3 = false → v = (Iv el2)),
    Fact.pure [39] (fun v => β3 = false → v = (Iv (A_m.places.length : Int))),
    Fact.pure [43, 39] (fun v => β3 = false → v = (Iv (IntKind.i64.wrap ((A_m.places.length : Int) - 1)))),
    Fact.pure [42, 44, 39] (fun v => β3 = false → v = (Bo β4)),
    Fact.pure [45, 39] (fun v => β3 = false → v = (Bo (!β4))),
    Fact.pure [39, 46] (fun v => v = (Bo (β3 || (!β4)))),
    Fact.pure [47] (fun v => v = (Bo (β3 || (!β4)))),
    Fact.pure [48] (fun v => (β3 || (!β4)) = false → v = (.slice p52 el1.length q53)),
    Fact.mem [49, 48] (fun v w' => (β3 || (!β4)) = false → PtrR RI w' v el3) (by intro v w1 w2 hx h; exact fun hg1 => (h hg1).ext RI.mono hx),
    Fact.pure [50, 48] (fun v => (β3 || (!β4)) = false → v = (Iv el3)),
    Fact.pure [48] (fun v => (β3 || (!β4)) = false → v = (Iv (A_m.places.length : Int))),
    Fact.pure [52, 48] (fun v => (β3 || (!β4)) = false → v = (Iv (IntKind.i64.wrap ((A_m.places.length : Int) - 1)))),
    Fact.pure [51, 53, 48] (fun v => (β3 || (!β4)) = false → v = (Bo β5)),
    Fact.pure [54, 48] (fun v => (β3 || (!β4)) = false → v = (Bo (!β5))),
    Fact.pure [48, 55] (fun v => v = (Bo ((β3 || (!β4)) || (!β5)))),
    Fact.pure [56] (fun v => v = (Bo ((β3 || (!β4)) || (!β5)))),
    Fact.pure [57] (fun v => ((β3 || (!β4)) || (!β5)) = false → v = (.slice p52 el1.length q53)),
    Fact.mem [58, 57] (fun v w' => ((β3 || (!β4)) || (!β5)) = false → PtrR RI w' v el4) (by intro v w1 w2 hx h; exact fun hg1 => (h hg1).ext RI.mono hx),
    Fact.pure [59, 57] (fun v => ((β3 || (!β4)) || (!β5)) = false → v = (Iv el4)),
    Fact.pure [57] (fun v => ((β3 || (!β4)) || (!β5)) = false → v = (Iv (A_m.places.length : Int))),
    Fact.pure [61, 57] (fun v => ((β3 || (!β4)) || (!β5)) = false → v = (Iv (IntKind.i64.wrap ((A_m.places.length : Int) - 1)))),
    Fact.pure [60, 62, 57] (fun v => ((β3 || (!β4)) || (!β5)) = false → v = (Bo β6)),
    Fact.pure [63, 57] (fun v => ((β3 || (!β4)) || (!β5)) = false → v = (Bo (!β6))),
    Fact.pure [57, 64] (fun v => v = (Bo β7)),
    Fact.pure [65] (fun v => v = (Bo β7)),
    Fact.pure [66] (fun v => β7 = false → v = (.slice p52 el1.length q53)),
    Fact.mem [67, 66] (fun v w' => β7 = false → PtrR RI w' v el2) (by intro v w1 w2 hx h; exact fun hg1 => (h hg1).ext RI.mono hx),
    Fact.pure [68, 66] (fun v => β7 = false → v = (Iv el2)),
    Fact.pure [66] (fun v => β7 = false → v = (.slice p52 el1.length q53)),
    Fact.mem [70, 66] (fun v w' => β7 = false → PtrR RI w' v el3) (by intro v w1 w2 hx h; exact fun hg1 => (h hg1).ext RI.mono hx),
    Fact.pure [71, 66] (fun v => β7 = false → v = (Iv el3)),
    Fact.pure [69, 72, 66] (fun v => β7 = false → v = (Bo (icmp .eql el2 el3))),
    Fact.pure [66, 73] (fun v => v = (Bo β8)),
    Fact.pure [74] (fun v => v = (Bo β8)),
    Fact.pure [75] (fun v => β8 = false → v = (.slice p52 el1.length q53)),
    Fact.mem [76, 75] (fun v w' => β8 = false → PtrR RI w' v el3) (by intro v w1 w2 hx h; exact fun hg1 => (h hg1).ext RI.mono hx),
    Fact.pure [77, 75] (fun v => β8 = false → v = (Iv el3)),
    Fact.pure [75] (fun v => β8 = false → v = (.slice p52 el1.length q53)),
    Fact.mem [79, 75] (fun v w' => β8 = false → PtrR RI w' v el4) (by intro v w1 w2 hx h; exact fun hg1 => (h hg1).ext RI.mono hx),
    Fact.pure [80, 75] (fun v => β8 = false → v = (Iv el4)),
    Fact.pure [78, 81, 75] (fun v => β8 = false → v = (Bo (icmp .eql el3 el4))),
    Fact.pure [75, 82] (fun v => v = (Bo β9)),
    Fact.pure [83] (fun v => v = (Bo β9)),
    Fact.pure [84] (fun v => β9 = false → v = (.slice p52 el1.length q53)),
    Fact.mem [85, 84] (fun v w' => β9 = false → PtrR RI w' v el4) (by intro v w1 w2 hx h; exact fun hg1 => (h hg1).ext RI.mono hx),
    Fact.pure [86, 84] (fun v => β9 = false → v = (Iv el4)),
    Fact.pure [84] (fun v => β9 = false → v = (.slice p52 el1.length q53)),
    Fact.mem [88, 84] (fun v w' => β9 = false → PtrR RI w' v el2) (by intro v w1 w2 hx h; exact fun hg1 => (h hg1).ext RI.mono hx),
    Fact.pure [89, 84] (fun v => β9 = false → v = (Iv el2)),
    Fact.pure [87, 90, 84] (fun v => β9 = false → v = (Bo (icmp .eql el4 el2))),
    Fact.pure [84, 91] (fun v => v = (Bo β10))]) mixed (by kernel_rfl) (by intro _ _ d _ _ h; cases d <;> exact h) ?_
      obtain ⟨w56, hw58⟩ : ∃ w', w' = World.drew w36 := ⟨_, rfl⟩; rw [← hw58]; have E57 : Ext w36 w56 := by rw [hw58]; exact Ext.draw _
      clear hw58
      have X59 := Ext.gr X39 E57
      refine RW_d _ rfl (fun v => by dsimp only [List.set]; try rfl) (fun u hu hF => ?_) (fun v60 => ?_)
      · clear hF
        refine doesG_un rfl ?_
        refine (does_move (u := (.slice p52 el1.length q53)) (ev rfl)).mono ?_; rintro _ _ ⟨rfl, rfl⟩
        exact ⟨rfl, Ext.refl _⟩
      refine RW_d _ rfl (fun v => by dsimp only [List.set]; try rfl) (fun u hu hF => ?_) (fun v61 => ?_)
      · have h36_ : v60 = (.slice p52 el1.length q53) := hF.1
        clear hF
        refine doesG_un rfl ?_
        obtain rfl := h36_
        refine (does_len_slice Try.underlying27 (ev rfl)).mono ?_; rintro _ _ ⟨rfl, rfl⟩
        exact ⟨rfl, Ext.refl _⟩
      refine RW_d _ rfl (fun v => by dsimp only [List.set]; try rfl) (fun u hu hF => ?_) (fun v62 => ?_)
      · have h37_ : v61 = (Iv (el1.length : Int)) := hF.1
        clear hF
        refine doesG_un rfl ?_
        obtain rfl := h37_
        refine (does_icmp (p := (el1.length : Int)) (q := 3) (.inr (.inl rfl)) (ev rfl) (ev rfl)).mono ?_; rintro _ _ ⟨rfl, rfl⟩
        exact ⟨(by first | rfl | (show _ = _; simp only [hβ3]; done) | (show _ = _; simp only [hβ3]; rfl)), Ext.refl _⟩
      refine RW_d _ rfl (fun v => by dsimp only [List.set]; try rfl) (fun u hu hF => ?_) (fun v63 => ?_)
      · have h38_ : v62 = (Bo β3) := hF.1
        clear hF
        refine doesG_un rfl ?_
        obtain rfl := h38_
        refine (does_move (u := (Bo β3)) (ev rfl)).mono ?_; rintro _ _ ⟨rfl, rfl⟩
        exact ⟨rfl, Ext.refl _⟩
      refine RW_d _ rfl (fun v => by dsimp only [List.set]; try rfl) (fun u hu hF => ?_) (fun v64 => ?_)
      · have h39_ : v63 = (Bo β3) := hF.1
        clear hF
        obtain rfl := h39_
        refine doesG_g (b := β3) rfl (yld rfl rfl) (fun hg1 => ?_) (fun hc => ⟨fun hg1 => absurd hg1 hc, Ext.refl _⟩)
        refine (does_move (u := (.slice p52 el1.length q53)) (ev rfl)).mono ?_; rintro _ _ ⟨rfl, rfl⟩
        exact ⟨fun _ => rfl, Ext.refl _⟩
      refine RW_d _ rfl (fun v => by dsimp only [List.set]; try rfl) (fun u hu hF => ?_) (fun v65 => ?_)
      · have h40_ : β3 = false → v64 = (.slice p52 el1.length q53) := hF.1
        have h39_ : v63 = (Bo β3) := hF.2.1
        clear hF
        obtain rfl := h39_
        refine doesG_g (b := β3) rfl (yld rfl rfl) (fun hg1 => ?_) (fun hc => ⟨fun hg1 => absurd hg1 hc, Ext.refl _⟩)
        obtain rfl := h40_ hg1
        refine (does_indexSl (R := RI) (i := 0) (xs := el1) (e := el2) Try.underlying27 Try.sizeOf2 (ev rfl) (ev rfl) (Sl.ext (Sl.ext hs54 RI.mono E57) RI.mono hu) (by first | omega | (simp only [hβ3, icmp, Bool.or_eq_false_iff, Bool.not_eq_false', Bool.not_eq_true', decide_eq_true_eq, decide_eq_false_iff_not, bne_eq_false_iff_eq] at hg1; omega) | (simp only [hβ3, icmp, Bool.or_eq_false_iff, Bool.not_eq_false', Bool.not_eq_true', decide_eq_true_eq, decide_eq_false_iff_not, bne_eq_false_iff_eq] at hg1 hg2; omega)) (hel2 (by first | omega | (simp only [hβ3, icmp, Bool.or_eq_false_iff, Bool.not_eq_false', Bool.not_eq_true', bne_eq_false_iff_eq] at hg1; omega)))).mono ?_; rintro v u' ⟨b, of, cs, hv, hc, hR, hu'⟩; subst hu'
        exact ⟨fun _ => ⟨b, of, cs, hv, hc, hR⟩, Ext.refl _⟩
      refine RW_d _ rfl (fun v => by dsimp only [List.set]; try rfl) (fun u hu hF => ?_) (fun v66 => ?_)
      · have h41_ : β3 = false → PtrR RI u v65 el2 := hF.1
        have h39_ : v63 = (Bo β3) := hF.2.1
        clear hF
        obtain rfl := h39_
        refine doesG_g (b := β3) rfl (yld rfl rfl) (fun hg1 => ?_) (fun hc => ⟨fun hg1 => absurd hg1 hc, Ext.refl _⟩)
        obtain ⟨b41_, o41_, _, rfl, hc41_, rfl⟩ := h41_ hg1
        refine (does_load (u := (Iv el2)) (ev rfl) Try.isAgg2 (Cells.at hc41_ 0 rfl)).mono ?_; rintro _ _ ⟨rfl, rfl⟩
        exact ⟨fun _ => rfl, Ext.refl _⟩
      refine RW_d _ rfl (fun v => by dsimp only [List.set]; try rfl) (fun u hu hF => ?_) (fun v67 => ?_)
      · have h39_ : v63 = (Bo β3) := hF.1
        clear hF
        obtain rfl := h39_
        refine doesG_g (b := β3) rfl (yld rfl rfl) (fun hg1 => ?_) (fun hc => ⟨fun hg1 => absurd hg1 hc, Ext.refl _⟩)
        refine (does_move (u := (Iv (A_m.places.length : Int))) (ev rfl)).mono ?_; rintro _ _ ⟨rfl, rfl⟩
        exact ⟨fun _ => rfl, Ext.refl _⟩
      refine RW_d _ rfl (fun v => by dsimp only [List.set]; try rfl) (fun u hu hF => ?_) (fun v68 => ?_)
      · have h43_ : β3 = false → v67 = (Iv (A_m.places.length : Int)) := hF.1
        have h39_ : v63 = (Bo β3) := hF.2.1
        clear hF
        obtain rfl := h39_
        refine doesG_g (b := β3) rfl (yld rfl rfl) (fun hg1 => ?_) (fun hc => ⟨fun hg1 => absurd hg1 hc, Ext.refl _⟩)
        obtain rfl := h43_ hg1
        refine (does_iarith (p := (A_m.places.length : Int)) (q := 1) (r := IntKind.i64.wrap ((A_m.places.length : Int) - 1)) (ev rfl) (ev rfl) (.inr (.inl ⟨rfl, rfl⟩))).mono ?_; rintro _ _ ⟨rfl, rfl⟩
        exact ⟨fun _ => rfl, Ext.refl _⟩
      refine RW_d _ rfl (fun v => by dsimp only [List.set]; try rfl) (fun u hu hF => ?_) (fun v69 => ?_)
      · have h42_ : β3 = false → v66 = (Iv el2) := hF.1
        have h44_ : β3 = false → v68 = (Iv (IntKind.i64.wrap ((A_m.places.length : Int) - 1))) := hF.2.1
        have h39_ : v63 = (Bo β3) := hF.2.2.1
        clear hF
        obtain rfl := h39_
        refine doesG_g (b := β3) rfl (yld rfl rfl) (fun hg1 => ?_) (fun hc => ⟨fun hg1 => absurd hg1 hc, Ext.refl _⟩)
        obtain rfl := h42_ hg1
        obtain rfl := h44_ hg1
        refine (does_call (args := #[(Iv el2), (Iv 0), (Iv (IntKind.i64.wrap ((A_m.places.length : Int) - 1)))]) cal47 (evs rfl) (c_spec_l00In el2 0 (IntKind.i64.wrap ((A_m.places.length : Int) - 1)) _)).mono ?_; rintro v u' ⟨hx, hv⟩
        exact ⟨fun _ => hv.trans (by simp only [hβ4]), hx⟩
      refine RW_d _ rfl (fun v => by dsimp only [List.set]; try rfl) (fun u hu hF => ?_) (fun v70 => ?_)
      · have h45_ : β3 = false → v69 = (Bo β4) := hF.1
        have h39_ : v63 = (Bo β3) := hF.2.1
        clear hF
        obtain rfl := h39_
        refine doesG_g (b := β3) rfl (yld rfl rfl) (fun hg1 => ?_) (fun hc => ⟨fun hg1 => absurd hg1 hc, Ext.refl _⟩)
        obtain rfl := h45_ hg1
        refine (does_not (ev rfl)).mono ?_; rintro _ _ ⟨rfl, rfl⟩
        exact ⟨fun _ => rfl, Ext.refl _⟩
      refine RW_d _ rfl (fun v => by dsimp only [List.set]; try rfl) (fun u hu hF => ?_) (fun v71 => ?_)
      · have h39_ : v63 = (Bo β3) := hF.1
        have h46_ : β3 = false → v70 = (Bo (!β4)) := hF.2.1
        clear hF
        refine doesG_un rfl ?_
        skip
        obtain rfl := h39_
        refine (does_pick (b := β3) (u := (Bo true)) (v := v70) (ev rfl) (ev rfl) (ev rfl)).mono ?_; rintro _ _ ⟨rfl, rfl⟩; refine ⟨?_, Ext.refl _⟩; skip
        cases hbb : β3
        all_goals first | (show _ = _; simp only [↓reduceIte, Bool.true_and, Bool.false_and, Bool.true_or, Bool.false_or, Bool.false_eq_true]; done) | (have e_ := h46_ hbb; subst e_; show _ = _; simp only [↓reduceIte, Bool.true_and, Bool.false_and, Bool.true_or, Bool.false_or, Bool.false_eq_true]; done) | rfl | (have e_ := h46_ hbb; subst e_; rfl) | (simp [hbb] at h46_ ⊢; first | done | rfl | (subst h46_; rfl) | simp_all) | (simp [hbb] at h46_ ⊢; done)
      refine RW_d _ rfl (fun v => by dsimp only [List.set]; try rfl) (fun u hu hF => ?_) (fun v72 => ?_)
      · have h47_ : v71 = (Bo (β3 || (!β4))) := hF.1
        clear hF
        refine doesG_un rfl ?_
        obtain rfl := h47_
        refine (does_move (u := (Bo (β3 || (!β4)))) (ev rfl)).mono ?_; rintro _ _ ⟨rfl, rfl⟩
        exact ⟨rfl, Ext.refl _⟩
      refine RW_d _ rfl (fun v => by dsimp only [List.set]; try rfl) (fun u hu hF => ?_) (fun v73 => ?_)
      · have h48_ : v72 = (Bo (β3 || (!β4))) := hF.1
        clear hF
        obtain rfl := h48_
        refine doesG_g (b := (β3 || (!β4))) rfl (yld rfl rfl) (fun hg1 => ?_) (fun hc => ⟨fun hg1 => absurd hg1 hc, Ext.refl _⟩)
        refine (does_move (u := (.slice p52 el1.length q53)) (ev rfl)).mono ?_; rintro _ _ ⟨rfl, rfl⟩
        exact ⟨fun _ => rfl, Ext.refl _⟩
      refine RW_d _ rfl (fun v => by dsimp only [List.set]; try rfl) (fun u hu hF => ?_) (fun v74 => ?_)
      · have h49_ : (β3 || (!β4)) = false → v73 = (.slice p52 el1.length q53) := hF.1
        have h48_ : v72 = (Bo (β3 || (!β4))) := hF.2.1
        clear hF
        obtain rfl := h48_
        refine doesG_g (b := (β3 || (!β4))) rfl (yld rfl rfl) (fun hg1 => ?_) (fun hc => ⟨fun hg1 => absurd hg1 hc, Ext.refl _⟩)
        obtain rfl := h49_ hg1
        refine (does_indexSl (R := RI) (i := 1) (xs := el1) (e := el3) Try.underlying27 Try.sizeOf2 (ev rfl) (ev rfl) (Sl.ext (Sl.ext hs54 RI.mono E57) RI.mono hu) (by first | omega | (simp only [hβ3, hβ4, icmp, Bool.or_eq_false_iff, Bool.not_eq_false', Bool.not_eq_true', decide_eq_true_eq, decide_eq_false_iff_not, bne_eq_false_iff_eq] at hg1; omega) | (simp only [hβ3, hβ4, icmp, Bool.or_eq_false_iff, Bool.not_eq_false', Bool.not_eq_true', decide_eq_true_eq, decide_eq_false_iff_not, bne_eq_false_iff_eq] at hg1 hg2; omega)) (hel3 (by first | omega | (simp only [hβ3, hβ4, icmp, Bool.or_eq_false_iff, Bool.not_eq_false', Bool.not_eq_true', bne_eq_false_iff_eq] at hg1; omega)))).mono ?_; rintro v u' ⟨b, of, cs, hv, hc, hR, hu'⟩; subst hu'
        exact ⟨fun _ => ⟨b, of, cs, hv, hc, hR⟩, Ext.refl _⟩
      refine RW_d _ rfl (fun v => by dsimp only [List.set]; try rfl) (fun u hu hF => ?_) (fun v75 => ?_)
      · have h50_ : (β3 || (!β4)) = false → PtrR RI u v74 el3 := hF.1
        have h48_ : v72 = (Bo (β3 || (!β4))) := hF.2.1
        clear hF
        obtain rfl := h48_
        refine doesG_g (b := (β3 || (!β4))) rfl (yld rfl rfl) (fun hg1 => ?_) (fun hc => ⟨fun hg1 => absurd hg1 hc, Ext.refl _⟩)
        obtain ⟨b50_, o50_, _, rfl, hc50_, rfl⟩ := h50_ hg1
        refine (does_load (u := (Iv el3)) (ev rfl) Try.isAgg2 (Cells.at hc50_ 0 rfl)).mono ?_; rintro _ _ ⟨rfl, rfl⟩
        exact ⟨fun _ => rfl, Ext.refl _⟩
      refine RW_d _ rfl (fun v => by dsimp only [List.set]; try rfl) (fun u hu hF => ?_) (fun v76 => ?_)
      · have h48_ : v72 = (Bo (β3 || (!β4))) := hF.1
        clear hF
        obtain rfl := h48_
        refine doesG_g (b := (β3 || (!β4))) rfl (yld rfl rfl) (fun hg1 => ?_) (fun hc => ⟨fun hg1 => absurd hg1 hc, Ext.refl _⟩)
        refine (does_move (u := (Iv (A_m.places.length : Int))) (ev rfl)).mono ?_; rintro _ _ ⟨rfl, rfl⟩
        exact ⟨fun _ => rfl, Ext.refl _⟩
      refine RW_d _ rfl (fun v => by dsimp only [List.set]; try rfl) (fun u hu hF => ?_) (fun v77 => ?_)
      · have h52_ : (β3 || (!β4)) = false → v76 = (Iv (A_m.places.length : Int)) := hF.1
        have h48_ : v72 = (Bo (β3 || (!β4))) := hF.2.1
        clear hF
        obtain rfl := h48_
        refine doesG_g (b := (β3 || (!β4))) rfl (yld rfl rfl) (fun hg1 => ?_) (fun hc => ⟨fun hg1 => absurd hg1 hc, Ext.refl _⟩)
        obtain rfl := h52_ hg1
        refine (does_iarith (p := (A_m.places.length : Int)) (q := 1) (r := IntKind.i64.wrap ((A_m.places.length : Int) - 1)) (ev rfl) (ev rfl) (.inr (.inl ⟨rfl, rfl⟩))).mono ?_; rintro _ _ ⟨rfl, rfl⟩
        exact ⟨fun _ => rfl, Ext.refl _⟩
      refine RW_d _ rfl (fun v => by dsimp only [List.set]; try rfl) (fun u hu hF => ?_) (fun v78 => ?_)
      · have h51_ : (β3 || (!β4)) = false → v75 = (Iv el3) := hF.1
        have h53_ : (β3 || (!β4)) = false → v77 = (Iv (IntKind.i64.wrap ((A_m.places.length : Int) - 1))) := hF.2.1
        have h48_ : v72 = (Bo (β3 || (!β4))) := hF.2.2.1
        clear hF
        obtain rfl := h48_
        refine doesG_g (b := (β3 || (!β4))) rfl (yld rfl rfl) (fun hg1 => ?_) (fun hc => ⟨fun hg1 => absurd hg1 hc, Ext.refl _⟩)
        obtain rfl := h51_ hg1
        obtain rfl := h53_ hg1
        refine (does_call (args := #[(Iv el3), (Iv 0), (Iv (IntKind.i64.wrap ((A_m.places.length : Int) - 1)))]) cal47 (evs rfl) (c_spec_l00In el3 0 (IntKind.i64.wrap ((A_m.places.length : Int) - 1)) _)).mono ?_; rintro v u' ⟨hx, hv⟩
        exact ⟨fun _ => hv.trans (by simp only [hβ5]), hx⟩
      refine RW_d _ rfl (fun v => by dsimp only [List.set]; try rfl) (fun u hu hF => ?_) (fun v79 => ?_)
      · have h54_ : (β3 || (!β4)) = false → v78 = (Bo β5) := hF.1
        have h48_ : v72 = (Bo (β3 || (!β4))) := hF.2.1
        clear hF
        obtain rfl := h48_
        refine doesG_g (b := (β3 || (!β4))) rfl (yld rfl rfl) (fun hg1 => ?_) (fun hc => ⟨fun hg1 => absurd hg1 hc, Ext.refl _⟩)
        obtain rfl := h54_ hg1
        refine (does_not (ev rfl)).mono ?_; rintro _ _ ⟨rfl, rfl⟩
        exact ⟨fun _ => rfl, Ext.refl _⟩
      refine RW_d _ rfl (fun v => by dsimp only [List.set]; try rfl) (fun u hu hF => ?_) (fun v80 => ?_)
      · have h48_ : v72 = (Bo (β3 || (!β4))) := hF.1
        have h55_ : (β3 || (!β4)) = false → v79 = (Bo (!β5)) := hF.2.1
        clear hF
        refine doesG_un rfl ?_
        skip
        obtain rfl := h48_
        refine (does_pick (b := (β3 || (!β4))) (u := (Bo true)) (v := v79) (ev rfl) (ev rfl) (ev rfl)).mono ?_; rintro _ _ ⟨rfl, rfl⟩; refine ⟨?_, Ext.refl _⟩; skip
        cases hbb : (β3 || (!β4))
        all_goals first | (show _ = _; simp only [↓reduceIte, Bool.true_and, Bool.false_and, Bool.true_or, Bool.false_or, Bool.false_eq_true]; done) | (have e_ := h55_ hbb; subst e_; show _ = _; simp only [↓reduceIte, Bool.true_and, Bool.false_and, Bool.true_or, Bool.false_or, Bool.false_eq_true]; done) | rfl | (have e_ := h55_ hbb; subst e_; rfl) | (simp [hbb] at h55_ ⊢; first | done | rfl | (subst h55_; rfl) | simp_all) | (simp [hbb] at h55_ ⊢; done)
      refine RW_d _ rfl (fun v => by dsimp only [List.set]; try rfl) (fun u hu hF => ?_) (fun v81 => ?_)
      · have h56_ : v80 = (Bo ((β3 || (!β4)) || (!β5))) := hF.1
        clear hF
        refine doesG_un rfl ?_
        obtain rfl := h56_
        refine (does_move (u := (Bo ((β3 || (!β4)) || (!β5)))) (ev rfl)).mono ?_; rintro _ _ ⟨rfl, rfl⟩
        exact ⟨rfl, Ext.refl _⟩
      refine RW_d _ rfl (fun v => by dsimp only [List.set]; try rfl) (fun u hu hF => ?_) (fun v82 => ?_)
      · have h57_ : v81 = (Bo ((β3 || (!β4)) || (!β5))) := hF.1
        clear hF
        obtain rfl := h57_
        refine doesG_g (b := ((β3 || (!β4)) || (!β5))) rfl (yld rfl rfl) (fun hg1 => ?_) (fun hc => ⟨fun hg1 => absurd hg1 hc, Ext.refl _⟩)
        refine (does_move (u := (.slice p52 el1.length q53)) (ev rfl)).mono ?_; rintro _ _ ⟨rfl, rfl⟩
        exact ⟨fun _ => rfl, Ext.refl _⟩
      refine RW_d _ rfl (fun v => by dsimp only [List.set]; try rfl) (fun u hu hF => ?_) (fun v83 => ?_)
      · have h58_ : ((β3 || (!β4)) || (!β5)) = false → v82 = (.slice p52 el1.length q53) := hF.1
        have h57_ : v81 = (Bo ((β3 || (!β4)) || (!β5))) := hF.2.1
        clear hF
        obtain rfl := h57_
        refine doesG_g (b := ((β3 || (!β4)) || (!β5))) rfl (yld rfl rfl) (fun hg1 => ?_) (fun hc => ⟨fun hg1 => absurd hg1 hc, Ext.refl _⟩)
        obtain rfl := h58_ hg1
        refine (does_indexSl (R := RI) (i := 2) (xs := el1) (e := el4) Try.underlying27 Try.sizeOf2 (ev rfl) (ev rfl) (Sl.ext (Sl.ext hs54 RI.mono E57) RI.mono hu) (by first | omega | (simp only [hβ3, hβ4, hβ5, icmp, Bool.or_eq_false_iff, Bool.not_eq_false', Bool.not_eq_true', decide_eq_true_eq, decide_eq_false_iff_not, bne_eq_false_iff_eq] at hg1; omega) | (simp only [hβ3, hβ4, hβ5, icmp, Bool.or_eq_false_iff, Bool.not_eq_false', Bool.not_eq_true', decide_eq_true_eq, decide_eq_false_iff_not, bne_eq_false_iff_eq] at hg1 hg2; omega)) (hel4 (by first | omega | (simp only [hβ3, hβ4, hβ5, icmp, Bool.or_eq_false_iff, Bool.not_eq_false', Bool.not_eq_true', bne_eq_false_iff_eq] at hg1; omega)))).mono ?_; rintro v u' ⟨b, of, cs, hv, hc, hR, hu'⟩; subst hu'
        exact ⟨fun _ => ⟨b, of, cs, hv, hc, hR⟩, Ext.refl _⟩
      refine RW_d _ rfl (fun v => by dsimp only [List.set]; try rfl) (fun u hu hF => ?_) (fun v84 => ?_)
      · have h59_ : ((β3 || (!β4)) || (!β5)) = false → PtrR RI u v83 el4 := hF.1
        have h57_ : v81 = (Bo ((β3 || (!β4)) || (!β5))) := hF.2.1
        clear hF
        obtain rfl := h57_
        refine doesG_g (b := ((β3 || (!β4)) || (!β5))) rfl (yld rfl rfl) (fun hg1 => ?_) (fun hc => ⟨fun hg1 => absurd hg1 hc, Ext.refl _⟩)
        obtain ⟨b59_, o59_, _, rfl, hc59_, rfl⟩ := h59_ hg1
        refine (does_load (u := (Iv el4)) (ev rfl) Try.isAgg2 (Cells.at hc59_ 0 rfl)).mono ?_; rintro _ _ ⟨rfl, rfl⟩
        exact ⟨fun _ => rfl, Ext.refl _⟩
      refine RW_d _ rfl (fun v => by dsimp only [List.set]; try rfl) (fun u hu hF => ?_) (fun v85 => ?_)
      · have h57_ : v81 = (Bo ((β3 || (!β4)) || (!β5))) := hF.1
        clear hF
        obtain rfl := h57_
        refine doesG_g (b := ((β3 || (!β4)) || (!β5))) rfl (yld rfl rfl) (fun hg1 => ?_) (fun hc => ⟨fun hg1 => absurd hg1 hc, Ext.refl _⟩)
        refine (does_move (u := (Iv (A_m.places.length : Int))) (ev rfl)).mono ?_; rintro _ _ ⟨rfl, rfl⟩
        exact ⟨fun _ => rfl, Ext.refl _⟩
      refine RW_d _ rfl (fun v => by dsimp only [List.set]; try rfl) (fun u hu hF => ?_) (fun v86 => ?_)
      · have h61_ : ((β3 || (!β4)) || (!β5)) = false → v85 = (Iv (A_m.places.length : Int)) := hF.1
        have h57_ : v81 = (Bo ((β3 || (!β4)) || (!β5))) := hF.2.1
        clear hF
        obtain rfl := h57_
        refine doesG_g (b := ((β3 || (!β4)) || (!β5))) rfl (yld rfl rfl) (fun hg1 => ?_) (fun hc => ⟨fun hg1 => absurd hg1 hc, Ext.refl _⟩)
        obtain rfl := h61_ hg1
        refine (does_iarith (p := (A_m.places.length : Int)) (q := 1) (r := IntKind.i64.wrap ((A_m.places.length : Int) - 1)) (ev rfl) (ev rfl) (.inr (.inl ⟨rfl, rfl⟩))).mono ?_; rintro _ _ ⟨rfl, rfl⟩
        exact ⟨fun _ => rfl, Ext.refl _⟩
      refine RW_d _ rfl (fun v => by dsimp only [List.set]; try rfl) (fun u hu hF => ?_) (fun v87 => ?_)
      · have h60_ : ((β3 || (!β4)) || (!β5)) = false → v84 = (Iv el4) := hF.1
        have h62_ : ((β3 || (!β4)) || (!β5)) = false → v86 = (Iv (IntKind.i64.wrap ((A_m.places.length : Int) - 1))) := hF.2.1
        have h57_ : v81 = (Bo ((β3 || (!β4)) || (!β5))) := hF.2.2.1
        clear hF
        obtain rfl := h57_
        refine doesG_g (b := ((β3 || (!β4)) || (!β5))) rfl (yld rfl rfl) (fun hg1 => ?_) (fun hc => ⟨fun hg1 => absurd hg1 hc, Ext.refl _⟩)
        obtain rfl := h60_ hg1
        obtain rfl := h62_ hg1
        refine (does_call (args := #[(Iv el4), (Iv 0), (Iv (IntKind.i64.wrap ((A_m.places.length : Int) - 1)))]) cal47 (evs rfl) (c_spec_l00In el4 0 (IntKind.i64.wrap ((A_m.places.length : Int) - 1)) _)).mono ?_; rintro v u' ⟨hx, hv⟩
        exact ⟨fun _ => hv.trans (by simp only [hβ6]), hx⟩
      refine RW_d _ rfl (fun v => by dsimp only [List.set]; try rfl) (fun u hu hF => ?_) (fun v88 => ?_)
      · have h63_ : ((β3 || (!β4)) || (!β5)) = false → v87 = (Bo β6) := hF.1
        have h57_ : v81 = (Bo ((β3 || (!β4)) || (!β5))) := hF.2.1
        clear hF
        obtain rfl := h57_
        refine doesG_g (b := ((β3 || (!β4)) || (!β5))) rfl (yld rfl rfl) (fun hg1 => ?_) (fun hc => ⟨fun hg1 => absurd hg1 hc, Ext.refl _⟩)
        obtain rfl := h63_ hg1
        refine (does_not (ev rfl)).mono ?_; rintro _ _ ⟨rfl, rfl⟩
        exact ⟨fun _ => rfl, Ext.refl _⟩
      refine RW_d _ rfl (fun v => by dsimp only [List.set]; try rfl) (fun u hu hF => ?_) (fun v89 => ?_)
      · have h57_ : v81 = (Bo ((β3 || (!β4)) || (!β5))) := hF.1
        have h64_ : ((β3 || (!β4)) || (!β5)) = false → v88 = (Bo (!β6)) := hF.2.1
        clear hF
        refine doesG_un rfl ?_
        skip
        obtain rfl := h57_
        refine (does_pick (b := ((β3 || (!β4)) || (!β5))) (u := (Bo true)) (v := v88) (ev rfl) (ev rfl) (ev rfl)).mono ?_; rintro _ _ ⟨rfl, rfl⟩; refine ⟨?_, Ext.refl _⟩; rw [hβ7]; skip
        cases hbb : ((β3 || (!β4)) || (!β5))
        all_goals first | (show _ = _; simp only [↓reduceIte, Bool.true_and, Bool.false_and, Bool.true_or, Bool.false_or, Bool.false_eq_true]; done) | (have e_ := h64_ hbb; subst e_; show _ = _; simp only [↓reduceIte, Bool.true_and, Bool.false_and, Bool.true_or, Bool.false_or, Bool.false_eq_true]; done) | rfl | (have e_ := h64_ hbb; subst e_; rfl) | (simp [hbb] at h64_ ⊢; first | done | rfl | (subst h64_; rfl) | simp_all) | (simp [hbb] at h64_ ⊢; done)
      refine RW_d _ rfl (fun v => by dsimp only [List.set]; try rfl) (fun u hu hF => ?_) (fun v90 => ?_)
      · have h65_ : v89 = (Bo β7) := hF.1
        clear hF
        refine doesG_un rfl ?_
        obtain rfl := h65_
        refine (does_move (u := (Bo β7)) (ev rfl)).mono ?_; rintro _ _ ⟨rfl, rfl⟩
        exact ⟨rfl, Ext.refl _⟩
      refine RW_d _ rfl (fun v => by dsimp only [List.set]; try rfl) (fun u hu hF => ?_) (fun v91 => ?_)
      · have h66_ : v90 = (Bo β7) := hF.1
        clear hF
        obtain rfl := h66_
        refine doesG_g (b := β7) rfl (yld rfl rfl) (fun hg1 => ?_) (fun hc => ⟨fun hg1 => absurd hg1 hc, Ext.refl _⟩)
        refine (does_move (u := (.slice p52 el1.length q53)) (ev rfl)).mono ?_; rintro _ _ ⟨rfl, rfl⟩
        exact ⟨fun _ => rfl, Ext.refl _⟩
      refine RW_d _ rfl (fun v => by dsimp only [List.set]; try rfl) (fun u hu hF => ?_) (fun v92 => ?_)
      · have h67_ : β7 = false → v91 = (.slice p52 el1.length q53) := hF.1
        have h66_ : v90 = (Bo β7) := hF.2.1
        clear hF
        obtain rfl := h66_
        refine doesG_g (b := β7) rfl (yld rfl rfl) (fun hg1 => ?_) (fun hc => ⟨fun hg1 => absurd hg1 hc, Ext.refl _⟩)
        obtain rfl := h67_ hg1
        refine (does_indexSl (R := RI) (i := 0) (xs := el1) (e := el2) Try.underlying27 Try.sizeOf2 (ev rfl) (ev rfl) (Sl.ext (Sl.ext hs54 RI.mono E57) RI.mono hu) (by first | omega | (simp only [hβ3, hβ4, hβ5, hβ6, hβ7, icmp, Bool.or_eq_false_iff, Bool.not_eq_false', Bool.not_eq_true', decide_eq_true_eq, decide_eq_false_iff_not, bne_eq_false_iff_eq] at hg1; omega) | (simp only [hβ3, hβ4, hβ5, hβ6, hβ7, icmp, Bool.or_eq_false_iff, Bool.not_eq_false', Bool.not_eq_true', decide_eq_true_eq, decide_eq_false_iff_not, bne_eq_false_iff_eq] at hg1 hg2; omega)) (hel2 (by first | omega | (simp only [hβ3, hβ4, hβ5, hβ6, hβ7, icmp, Bool.or_eq_false_iff, Bool.not_eq_false', Bool.not_eq_true', bne_eq_false_iff_eq] at hg1; omega)))).mono ?_; rintro v u' ⟨b, of, cs, hv, hc, hR, hu'⟩; subst hu'
        exact ⟨fun _ => ⟨b, of, cs, hv, hc, hR⟩, Ext.refl _⟩
      refine RW_d _ rfl (fun v => by dsimp only [List.set]; try rfl) (fun u hu hF => ?_) (fun v93 => ?_)
      · have h68_ : β7 = false → PtrR RI u v92 el2 := hF.1
        have h66_ : v90 = (Bo β7) := hF.2.1
        clear hF
        obtain rfl := h66_
        refine doesG_g (b := β7) rfl (yld rfl rfl) (fun hg1 => ?_) (fun hc => ⟨fun hg1 => absurd hg1 hc, Ext.refl _⟩)
        obtain ⟨b68_, o68_, _, rfl, hc68_, rfl⟩ := h68_ hg1
        refine (does_load (u := (Iv el2)) (ev rfl) Try.isAgg2 (Cells.at hc68_ 0 rfl)).mono ?_; rintro _ _ ⟨rfl, rfl⟩
        exact ⟨fun _ => rfl, Ext.refl _⟩
      refine RW_d _ rfl (fun v => by dsimp only [List.set]; try rfl) (fun u hu hF => ?_) (fun v94 => ?_)
      · have h66_ : v90 = (Bo β7) := hF.1
        clear hF
        obtain rfl := h66_
        refine doesG_g (b := β7) rfl (yld rfl rfl) (fun hg1 => ?_) (fun hc => ⟨fun hg1 => absurd hg1 hc, Ext.refl _⟩)
        refine (does_move (u := (.slice p52 el1.length q53)) (ev rfl)).mono ?_; rintro _ _ ⟨rfl, rfl⟩
        exact ⟨fun _ => rfl, Ext.refl _⟩
      refine RW_d _ rfl (fun v => by dsimp only [List.set]; try rfl) (fun u hu hF => ?_) (fun v95 => ?_)
      · have h70_ : β7 = false → v94 = (.slice p52 el1.length q53) := hF.1
        have h66_ : v90 = (Bo β7) := hF.2.1
        clear hF
        obtain rfl := h66_
        refine doesG_g (b := β7) rfl (yld rfl rfl) (fun hg1 => ?_) (fun hc => ⟨fun hg1 => absurd hg1 hc, Ext.refl _⟩)
        obtain rfl := h70_ hg1
        refine (does_indexSl (R := RI) (i := 1) (xs := el1) (e := el3) Try.underlying27 Try.sizeOf2 (ev rfl) (ev rfl) (Sl.ext (Sl.ext hs54 RI.mono E57) RI.mono hu) (by first | omega | (simp only [hβ3, hβ4, hβ5, hβ6, hβ7, icmp, Bool.or_eq_false_iff, Bool.not_eq_false', Bool.not_eq_true', decide_eq_true_eq, decide_eq_false_iff_not, bne_eq_false_iff_eq] at hg1; omega) | (simp only [hβ3, hβ4, hβ5, hβ6, hβ7, icmp, Bool.or_eq_false_iff, Bool.not_eq_false', Bool.not_eq_true', decide_eq_true_eq, decide_eq_false_iff_not, bne_eq_false_iff_eq] at hg1 hg2; omega)) (hel3 (by first | omega | (simp only [hβ3, hβ4, hβ5, hβ6, hβ7, icmp, Bool.or_eq_false_iff, Bool.not_eq_false', Bool.not_eq_true', bne_eq_false_iff_eq] at hg1; omega)))).mono ?_; rintro v u' ⟨b, of, cs, hv, hc, hR, hu'⟩; subst hu'
        exact ⟨fun _ => ⟨b, of, cs, hv, hc, hR⟩, Ext.refl _⟩
      refine RW_d _ rfl (fun v => by dsimp only [List.set]; try rfl) (fun u hu hF => ?_) (fun v96 => ?_)
      · have h71_ : β7 = false → PtrR RI u v95 el3 := hF.1
        have h66_ : v90 = (Bo β7) := hF.2.1
        clear hF
        obtain rfl := h66_
        refine doesG_g (b := β7) rfl (yld rfl rfl) (fun hg1 => ?_) (fun hc => ⟨fun hg1 => absurd hg1 hc, Ext.refl _⟩)
        obtain ⟨b71_, o71_, _, rfl, hc71_, rfl⟩ := h71_ hg1
        refine (does_load (u := (Iv el3)) (ev rfl) Try.isAgg2 (Cells.at hc71_ 0 rfl)).mono ?_; rintro _ _ ⟨rfl, rfl⟩
        exact ⟨fun _ => rfl, Ext.refl _⟩
      refine RW_d _ rfl (fun v => by dsimp only [List.set]; try rfl) (fun u hu hF => ?_) (fun v97 => ?_)
      · have h69_ : β7 = false → v93 = (Iv el2) := hF.1
        have h72_ : β7 = false → v96 = (Iv el3) := hF.2.1
        have h66_ : v90 = (Bo β7) := hF.2.2.1
        clear hF
        obtain rfl := h66_
        refine doesG_g (b := β7) rfl (yld rfl rfl) (fun hg1 => ?_) (fun hc => ⟨fun hg1 => absurd hg1 hc, Ext.refl _⟩)
        obtain rfl := h69_ hg1
        obtain rfl := h72_ hg1
        refine (does_icmp (p := el2) (q := el3) (.inl rfl) (ev rfl) (ev rfl)).mono ?_; rintro _ _ ⟨rfl, rfl⟩
        exact ⟨fun _ => rfl, Ext.refl _⟩
      refine RW_d _ rfl (fun v => by dsimp only [List.set]; try rfl) (fun u hu hF => ?_) (fun v98 => ?_)
      · have h66_ : v90 = (Bo β7) := hF.1
        have h73_ : β7 = false → v97 = (Bo (icmp .eql el2 el3)) := hF.2.1
        clear hF
        refine doesG_un rfl ?_
        skip
        obtain rfl := h66_
        refine (does_pick (b := β7) (u := (Bo true)) (v := v97) (ev rfl) (ev rfl) (ev rfl)).mono ?_; rintro _ _ ⟨rfl, rfl⟩; refine ⟨?_, Ext.refl _⟩; rw [hβ8]; skip
        cases hbb : β7
        all_goals first | (show _ = _; simp only [↓reduceIte, Bool.true_and, Bool.false_and, Bool.true_or, Bool.false_or, Bool.false_eq_true]; done) | (have e_ := h73_ hbb; subst e_; show _ = _; simp only [↓reduceIte, Bool.true_and, Bool.false_and, Bool.true_or, Bool.false_or, Bool.false_eq_true]; done) | rfl | (have e_ := h73_ hbb; subst e_; rfl) | (simp [hbb] at h73_ ⊢; first | done | rfl | (subst h73_; rfl) | simp_all) | (simp [hbb] at h73_ ⊢; done)
      refine RW_d _ rfl (fun v => by dsimp only [List.set]; try rfl) (fun u hu hF => ?_) (fun v99 => ?_)
      · have h74_ : v98 = (Bo β8) := hF.1
        clear hF
        refine doesG_un rfl ?_
        obtain rfl := h74_
        refine (does_move (u := (Bo β8)) (ev rfl)).mono ?_; rintro _ _ ⟨rfl, rfl⟩
        exact ⟨rfl, Ext.refl _⟩
      refine RW_d _ rfl (fun v => by dsimp only [List.set]; try rfl) (fun u hu hF => ?_) (fun v100 => ?_)
      · have h75_ : v99 = (Bo β8) := hF.1
        clear hF
        obtain rfl := h75_
        refine doesG_g (b := β8) rfl (yld rfl rfl) (fun hg1 => ?_) (fun hc => ⟨fun hg1 => absurd hg1 hc, Ext.refl _⟩)
        refine (does_move (u := (.slice p52 el1.length q53)) (ev rfl)).mono ?_; rintro _ _ ⟨rfl, rfl⟩
        exact ⟨fun _ => rfl, Ext.refl _⟩
      refine RW_d _ rfl (fun v => by dsimp only [List.set]; try rfl) (fun u hu hF => ?_) (fun v101 => ?_)
      · have h76_ : β8 = false → v100 = (.slice p52 el1.length q53) := hF.1
        have h75_ : v99 = (Bo β8) := hF.2.1
        clear hF
        obtain rfl := h75_
        refine doesG_g (b := β8) rfl (yld rfl rfl) (fun hg1 => ?_) (fun hc => ⟨fun hg1 => absurd hg1 hc, Ext.refl _⟩)
        obtain rfl := h76_ hg1
        refine (does_indexSl (R := RI) (i := 1) (xs := el1) (e := el3) Try.underlying27 Try.sizeOf2 (ev rfl) (ev rfl) (Sl.ext (Sl.ext hs54 RI.mono E57) RI.mono hu) (by first | omega | (simp only [hβ3, hβ4, hβ5, hβ6, hβ7, hβ8, icmp, Bool.or_eq_false_iff, Bool.not_eq_false', Bool.not_eq_true', decide_eq_true_eq, decide_eq_false_iff_not, bne_eq_false_iff_eq] at hg1; omega) | (simp only [hβ3, hβ4, hβ5, hβ6, hβ7, hβ8, icmp, Bool.or_eq_false_iff, Bool.not_eq_false', Bool.not_eq_true', decide_eq_true_eq, decide_eq_false_iff_not, bne_eq_false_iff_eq] at hg1 hg2; omega)) (hel3 (by first | omega | (simp only [hβ3, hβ4, hβ5, hβ6, hβ7, hβ8, icmp, Bool.or_eq_false_iff, Bool.not_eq_false', Bool.not_eq_true', bne_eq_false_iff_eq] at hg1; omega)))).mono ?_; rintro v u' ⟨b, of, cs, hv, hc, hR, hu'⟩; subst hu'
        exact ⟨fun _ => ⟨b, of, cs, hv, hc, hR⟩, Ext.refl _⟩
      refine RW_d _ rfl (fun v => by dsimp only [List.set]; try rfl) (fun u hu hF => ?_) (fun v102 => ?_)
      · have h77_ : β8 = false → PtrR RI u v101 el3 := hF.1
        have h75_ : v99 = (Bo β8) := hF.2.1
        clear hF
        obtain rfl := h75_
        refine doesG_g (b := β8) rfl (yld rfl rfl) (fun hg1 => ?_) (fun hc => ⟨fun hg1 => absurd hg1 hc, Ext.refl _⟩)
        obtain ⟨b77_, o77_, _, rfl, hc77_, rfl⟩ := h77_ hg1
        refine (does_load (u := (Iv el3)) (ev rfl) Try.isAgg2 (Cells.at hc77_ 0 rfl)).mono ?_; rintro _ _ ⟨rfl, rfl⟩
        exact ⟨fun _ => rfl, Ext.refl _⟩
      refine RW_d _ rfl (fun v => by dsimp only [List.set]; try rfl) (fun u hu hF => ?_) (fun v103 => ?_)
      · have h75_ : v99 = (Bo β8) := hF.1
        clear hF
        obtain rfl := h75_
        refine doesG_g (b := β8) rfl (yld rfl rfl) (fun hg1 => ?_) (fun hc => ⟨fun hg1 => absurd hg1 hc, Ext.refl _⟩)
        refine (does_move (u := (.slice p52 el1.length q53)) (ev rfl)).mono ?_; rintro _ _ ⟨rfl, rfl⟩
        exact ⟨fun _ => rfl, Ext.refl _⟩
      refine RW_d _ rfl (fun v => by dsimp only [List.set]; try rfl) (fun u hu hF => ?_) (fun v104 => ?_)
      · have h79_ : β8 = false → v103 = (.slice p52 el1.length q53) := hF.1
        have h75_ : v99 = (Bo β8) := hF.2.1
        clear hF
        obtain rfl := h75_
        refine doesG_g (b := β8) rfl (yld rfl rfl) (fun hg1 => ?_) (fun hc => ⟨fun hg1 => absurd hg1 hc, Ext.refl _⟩)
        obtain rfl := h79_ hg1
        refine (does_indexSl (R := RI) (i := 2) (xs := el1) (e := el4) Try.underlying27 Try.sizeOf2 (ev rfl) (ev rfl) (Sl.ext (Sl.ext hs54 RI.mono E57) RI.mono hu) (by first | omega | (simp only [hβ3, hβ4, hβ5, hβ6, hβ7, hβ8, icmp, Bool.or_eq_false_iff, Bool.not_eq_false', Bool.not_eq_true', decide_eq_true_eq, decide_eq_false_iff_not, bne_eq_false_iff_eq] at hg1; omega) | (simp only [hβ3, hβ4, hβ5, hβ6, hβ7, hβ8, icmp, Bool.or_eq_false_iff, Bool.not_eq_false', Bool.not_eq_true', decide_eq_true_eq, decide_eq_false_iff_not, bne_eq_false_iff_eq] at hg1 hg2; omega)) (hel4 (by first | omega | (simp only [hβ3, hβ4, hβ5, hβ6, hβ7, hβ8, icmp, Bool.or_eq_false_iff, Bool.not_eq_false', Bool.not_eq_true', bne_eq_false_iff_eq] at hg1; omega)))).mono ?_; rintro v u' ⟨b, of, cs, hv, hc, hR, hu'⟩; subst hu'
        exact ⟨fun _ => ⟨b, of, cs, hv, hc, hR⟩, Ext.refl _⟩
      refine RW_d _ rfl (fun v => by dsimp only [List.set]; try rfl) (fun u hu hF => ?_) (fun v105 => ?_)
      · have h80_ : β8 = false → PtrR RI u v104 el4 := hF.1
        have h75_ : v99 = (Bo β8) := hF.2.1
        clear hF
        obtain rfl := h75_
        refine doesG_g (b := β8) rfl (yld rfl rfl) (fun hg1 => ?_) (fun hc => ⟨fun hg1 => absurd hg1 hc, Ext.refl _⟩)
        obtain ⟨b80_, o80_, _, rfl, hc80_, rfl⟩ := h80_ hg1
        refine (does_load (u := (Iv el4)) (ev rfl) Try.isAgg2 (Cells.at hc80_ 0 rfl)).mono ?_; rintro _ _ ⟨rfl, rfl⟩
        exact ⟨fun _ => rfl, Ext.refl _⟩
      refine RW_d _ rfl (fun v => by dsimp only [List.set]; try rfl) (fun u hu hF => ?_) (fun v106 => ?_)
      · have h78_ : β8 = false → v102 = (Iv el3) := hF.1
        have h81_ : β8 = false → v105 = (Iv el4) := hF.2.1
        have h75_ : v99 = (Bo β8) := hF.2.2.1
        clear hF
        obtain rfl := h75_
        refine doesG_g (b := β8) rfl (yld rfl rfl) (fun hg1 => ?_) (fun hc => ⟨fun hg1 => absurd hg1 hc, Ext.refl _⟩)
        obtain rfl := h78_ hg1
        obtain rfl := h81_ hg1
        refine (does_icmp (p := el3) (q := el4) (.inl rfl) (ev rfl) (ev rfl)).mono ?_; rintro _ _ ⟨rfl, rfl⟩
        exact ⟨fun _ => rfl, Ext.refl _⟩
      refine RW_d _ rfl (fun v => by dsimp only [List.set]; try rfl) (fun u hu hF => ?_) (fun v107 => ?_)
      · have h75_ : v99 = (Bo β8) := hF.1
        have h82_ : β8 = false → v106 = (Bo (icmp .eql el3 el4)) := hF.2.1
        clear hF
        refine doesG_un rfl ?_
        skip
        obtain rfl := h75_
        refine (does_pick (b := β8) (u := (Bo true)) (v := v106) (ev rfl) (ev rfl) (ev rfl)).mono ?_; rintro _ _ ⟨rfl, rfl⟩; refine ⟨?_, Ext.refl _⟩; rw [hβ9]; skip
        cases hbb : β8
        all_goals first | (show _ = _; simp only [↓reduceIte, Bool.true_and, Bool.false_and, Bool.true_or, Bool.false_or, Bool.false_eq_true]; done) | (have e_ := h82_ hbb; subst e_; show _ = _; simp only [↓reduceIte, Bool.true_and, Bool.false_and, Bool.true_or, Bool.false_or, Bool.false_eq_true]; done) | rfl | (have e_ := h82_ hbb; subst e_; rfl) | (simp [hbb] at h82_ ⊢; first | done | rfl | (subst h82_; rfl) | simp_all) | (simp [hbb] at h82_ ⊢; done)
      refine RW_d _ rfl (fun v => by dsimp only [List.set]; try rfl) (fun u hu hF => ?_) (fun v108 => ?_)
      · have h83_ : v107 = (Bo β9) := hF.1
        clear hF
        refine doesG_un rfl ?_
        obtain rfl := h83_
        refine (does_move (u := (Bo β9)) (ev rfl)).mono ?_; rintro _ _ ⟨rfl, rfl⟩
        exact ⟨rfl, Ext.refl _⟩
      refine RW_d _ rfl (fun v => by dsimp only [List.set]; try rfl) (fun u hu hF => ?_) (fun v109 => ?_)
      · have h84_ : v108 = (Bo β9) := hF.1
        clear hF
        obtain rfl := h84_
        refine doesG_g (b := β9) rfl (yld rfl rfl) (fun hg1 => ?_) (fun hc => ⟨fun hg1 => absurd hg1 hc, Ext.refl _⟩)
        refine (does_move (u := (.slice p52 el1.length q53)) (ev rfl)).mono ?_; rintro _ _ ⟨rfl, rfl⟩
        exact ⟨fun _ => rfl, Ext.refl _⟩
      refine RW_d _ rfl (fun v => by dsimp only [List.set]; try rfl) (fun u hu hF => ?_) (fun v110 => ?_)
      · have h85_ : β9 = false → v109 = (.slice p52 el1.length q53) := hF.1
        have h84_ : v108 = (Bo β9) := hF.2.1
        clear hF
        obtain rfl := h84_
        refine doesG_g (b := β9) rfl (yld rfl rfl) (fun hg1 => ?_) (fun hc => ⟨fun hg1 => absurd hg1 hc, Ext.refl _⟩)
        obtain rfl := h85_ hg1
        refine (does_indexSl (R := RI) (i := 2) (xs := el1) (e := el4) Try.underlying27 Try.sizeOf2 (ev rfl) (ev rfl) (Sl.ext (Sl.ext hs54 RI.mono E57) RI.mono hu) (by first | omega | (simp only [hβ3, hβ4, hβ5, hβ6, hβ7, hβ8, hβ9, icmp, Bool.or_eq_false_iff, Bool.not_eq_false', Bool.not_eq_true', decide_eq_true_eq, decide_eq_false_iff_not, bne_eq_false_iff_eq] at hg1; omega) | (simp only [hβ3, hβ4, hβ5, hβ6, hβ7, hβ8, hβ9, icmp, Bool.or_eq_false_iff, Bool.not_eq_false', Bool.not_eq_true', decide_eq_true_eq, decide_eq_false_iff_not, bne_eq_false_iff_eq] at hg1 hg2; omega)) (hel4 (by first | omega | (simp only [hβ3, hβ4, hβ5, hβ6, hβ7, hβ8, hβ9, icmp, Bool.or_eq_false_iff, Bool.not_eq_false', Bool.not_eq_true', bne_eq_false_iff_eq] at hg1; omega)))).mono ?_; rintro v u' ⟨b, of, cs, hv, hc, hR, hu'⟩; subst hu'
        exact ⟨fun _ => ⟨b, of, cs, hv, hc, hR⟩, Ext.refl _⟩
      refine RW_d _ rfl (fun v => by dsimp only [List.set]; try rfl) (fun u hu hF => ?_) (fun v111 => ?_)
      · have h86_ : β9 = false → PtrR RI u v110 el4 := hF.1
        have h84_ : v108 = (Bo β9) := hF.2.1
        clear hF
        obtain rfl := h84_
        refine doesG_g (b := β9) rfl (yld rfl rfl) (fun hg1 => ?_) (fun hc => ⟨fun hg1 => absurd hg1 hc, Ext.refl _⟩)
        obtain ⟨b86_, o86_, _, rfl, hc86_, rfl⟩ := h86_ hg1
        refine (does_load (u := (Iv el4)) (ev rfl) Try.isAgg2 (Cells.at hc86_ 0 rfl)).mono ?_; rintro _ _ ⟨rfl, rfl⟩
        exact ⟨fun _ => rfl, Ext.refl _⟩
      refine RW_d _ rfl (fun v => by dsimp only [List.set]; try rfl) (fun u hu hF => ?_) (fun v112 => ?_)
      · have h84_ : v108 = (Bo β9) := hF.1
        clear hF
        obtain rfl := h84_
        refine doesG_g (b := β9) rfl (yld rfl rfl) (fun hg1 => ?_) (fun hc => ⟨fun hg1 => absurd hg1 hc, Ext.refl _⟩)
        refine (does_move (u := (.slice p52 el1.length q53)) (ev rfl)).mono ?_; rintro _ _ ⟨rfl, rfl⟩
        exact ⟨fun _ => rfl, Ext.refl _⟩
      refine RW_d _ rfl (fun v => by dsimp only [List.set]; try rfl) (fun u hu hF => ?_) (fun v113 => ?_)
      · have h88_ : β9 = false → v112 = (.slice p52 el1.length q53) := hF.1
        have h84_ : v108 = (Bo β9) := hF.2.1
        clear hF
        obtain rfl := h84_
        refine doesG_g (b := β9) rfl (yld rfl rfl) (fun hg1 => ?_) (fun hc => ⟨fun hg1 => absurd hg1 hc, Ext.refl _⟩)
        obtain rfl := h88_ hg1
        refine (does_indexSl (R := RI) (i := 0) (xs := el1) (e := el2) Try.underlying27 Try.sizeOf2 (ev rfl) (ev rfl) (Sl.ext (Sl.ext hs54 RI.mono E57) RI.mono hu) (by first | omega | (simp only [hβ3, hβ4, hβ5, hβ6, hβ7, hβ8, hβ9, icmp, Bool.or_eq_false_iff, Bool.not_eq_false', Bool.not_eq_true', decide_eq_true_eq, decide_eq_false_iff_not, bne_eq_false_iff_eq] at hg1; omega) | (simp only [hβ3, hβ4, hβ5, hβ6, hβ7, hβ8, hβ9, icmp, Bool.or_eq_false_iff, Bool.not_eq_false', Bool.not_eq_true', decide_eq_true_eq, decide_eq_false_iff_not, bne_eq_false_iff_eq] at hg1 hg2; omega)) (hel2 (by first | omega | (simp only [hβ3, hβ4, hβ5, hβ6, hβ7, hβ8, hβ9, icmp, Bool.or_eq_false_iff, Bool.not_eq_false', Bool.not_eq_true', bne_eq_false_iff_eq] at hg1; omega)))).mono ?_; rintro v u' ⟨b, of, cs, hv, hc, hR, hu'⟩; subst hu'
        exact ⟨fun _ => ⟨b, of, cs, hv, hc, hR⟩, Ext.refl _⟩
      refine RW_d _ rfl (fun v => by dsimp only [List.set]; try rfl) (fun u hu hF => ?_) (fun v114 => ?_)
      · have h89_ : β9 = false → PtrR RI u v113 el2 := hF.1
        have h84_ : v108 = (Bo β9) := hF.2.1
        clear hF
        obtain rfl := h84_
        refine doesG_g (b := β9) rfl (yld rfl rfl) (fun hg1 => ?_) (fun hc => ⟨fun hg1 => absurd hg1 hc, Ext.refl _⟩)
        obtain ⟨b89_, o89_, _, rfl, hc89_, rfl⟩ := h89_ hg1
        refine (does_load (u := (Iv el2)) (ev rfl) Try.isAgg2 (Cells.at hc89_ 0 rfl)).mono ?_; rintro _ _ ⟨rfl, rfl⟩
        exact ⟨fun _ => rfl, Ext.refl _⟩
      refine RW_d _ rfl (fun v => by dsimp only [List.set]; try rfl) (fun u hu hF => ?_) (fun v115 => ?_)
      · have h87_ : β9 = false → v111 = (Iv el4) := hF.1
        have h90_ : β9 = false → v114 = (Iv el2) := hF.2.1
        have h84_ : v108 = (Bo β9) := hF.2.2.1
        clear hF
        obtain rfl := h84_
        refine doesG_g (b := β9) rfl (yld rfl rfl) (fun hg1 => ?_) (fun hc => ⟨fun hg1 => absurd hg1 hc, Ext.refl _⟩)
        obtain rfl := h87_ hg1
        obtain rfl := h90_ hg1
        refine (does_icmp (p := el4) (q := el2) (.inl rfl) (ev rfl) (ev rfl)).mono ?_; rintro _ _ ⟨rfl, rfl⟩
        exact ⟨fun _ => rfl, Ext.refl _⟩
      refine RW_d _ rfl (fun v => by dsimp only [List.set]; try rfl) (fun u hu hF => ?_) (fun v116 => ?_)
      · have h84_ : v108 = (Bo β9) := hF.1
        have h91_ : β9 = false → v115 = (Bo (icmp .eql el4 el2)) := hF.2.1
        clear hF
        refine doesG_un rfl ?_
        skip
        obtain rfl := h84_
        refine (does_pick (b := β9) (u := (Bo true)) (v := v115) (ev rfl) (ev rfl) (ev rfl)).mono ?_; rintro _ _ ⟨rfl, rfl⟩; refine ⟨?_, Ext.refl _⟩; rw [hβ10]; skip
        cases hbb : β9
        all_goals first | (show _ = _; simp only [↓reduceIte, Bool.true_and, Bool.false_and, Bool.true_or, Bool.false_or, Bool.false_eq_true]; done) | (have e_ := h91_ hbb; subst e_; show _ = _; simp only [↓reduceIte, Bool.true_and, Bool.false_and, Bool.true_or, Bool.false_or, Bool.false_eq_true]; done) | rfl | (have e_ := h91_ hbb; subst e_; rfl) | (simp [hbb] at h91_ ⊢; first | done | rfl | (subst h91_; rfl) | simp_all) | (simp [hbb] at h91_ ⊢; done)
      refine RW_fin ?_; intro w117 E118 hP119
      obtain ⟨⟨⟨⟨⟨⟨⟨⟨⟨⟨⟨⟨⟨⟨⟨⟨⟨⟨⟨⟨⟨⟨⟨⟨⟨⟨⟨⟨⟨⟨⟨⟨⟨⟨⟨⟨⟨⟨⟨⟨⟨⟨⟨⟨⟨⟨⟨⟨⟨⟨⟨⟨⟨⟨⟨⟨⟨-, -⟩, -⟩, -⟩, -⟩, -⟩, -⟩, -⟩, -⟩, -⟩, -⟩, -⟩, -⟩, -⟩, -⟩, -⟩, -⟩, -⟩, -⟩, -⟩, -⟩, -⟩, -⟩, -⟩, -⟩, -⟩, -⟩, -⟩, -⟩, -⟩, -⟩, -⟩, -⟩, -⟩, -⟩, -⟩, -⟩, -⟩, -⟩, -⟩, -⟩, -⟩, -⟩, -⟩, -⟩, -⟩, -⟩, -⟩, -⟩, -⟩, -⟩, -⟩, -⟩, -⟩, -⟩, -⟩, -⟩, q120⟩ := hP119
      have X121 := Ext.gr X59 E118
      have q120 : v116 = (Bo β10) := q120
      obtain rfl := q120
      show wpList _ _ _ _ (fr [_, _, _, _, _, _, _, _, _, _, _, _, _, _, _, _, _, _, _, _, _, _, _, _, _, _, _, _, _, _, _, _, _, _, _, _, _, _, _, _, _, _, _, _, _, _, _, _, _, _, _, _, _, _, _, _, _, _, _, _, _, _, _, _, _, _, _, _, _, _, _, _, _, _, _, _, _, _, _, _, _, _, _, _, _, _, _, _, _, _, _, _, _, _]) _
      refine wpList_nil (hK55 _ _ ?_)
      refine wp_cond_split (t := β10) (ev rfl) (fun c122 => ?_) (fun c122 => ?_)
      · have c122' := c122
        (try simp only [hβ1, hβ2, hβ3, hβ4, hβ5, hβ6, hβ7, hβ8, hβ9, hβ10] at c122')
        (try simp only [icmp, Bool.and_eq_true, Bool.or_eq_true, Bool.and_eq_false_iff, Bool.or_eq_false_iff, Bool.not_eq_true', Bool.not_eq_false', decide_eq_true_eq, decide_eq_false_iff_not, beq_iff_eq, bne_iff_ne, beq_eq_false_iff_ne, bne_eq_false_iff_eq] at c122')
        refine wp_seq_k fun K123 hK123 => ?_
        refine wp_region_lit ?_
        refine q_is rfl rfl (does_assign (u := (Bo false)) (ev rfl)) (by dsimp only [List.set]; try rfl) ?_
        refine wpList_nil (hK123 _ _ ?_)
        refine wp_ret ?_
        dsimp only [Exit.then, Exit.inBlock]
        refine ret_val (v := (Bo false)) (res_T rfl (slot rfl)) X121 ?_
        try simp only [hβ1, hβ2, hel1, hβ3, hβ4, hβ5, hβ6, hβ7, hβ8, hβ9, hβ10] at c30 c42 c122
        have x124 : (meshOk A_m) = false := by first | exact meshOk_big (by assumption) | exact meshOk_bad (by assumption) (triS_bad (by assumption) (by assumption) (by assumption) (by assumption)) | exact meshOk_ok (by assumption) hal (by omega)
        exact (by first | with_reducible rfl | rw [x124] | rfl)
      have c122' := c122
      (try simp only [hβ1, hβ2, hβ3, hβ4, hβ5, hβ6, hβ7, hβ8, hβ9, hβ10] at c122')
      (try simp only [icmp, Bool.and_eq_true, Bool.or_eq_true, Bool.and_eq_false_iff, Bool.or_eq_false_iff, Bool.not_eq_true', Bool.not_eq_false', decide_eq_true_eq, decide_eq_false_iff_not, beq_iff_eq, bne_iff_ne, beq_eq_false_iff_ne, bne_eq_false_iff_eq] at c122')
      refine wp_skip (hK43 _ _ ?_)
      refine wp_region_lit ?_
      refine q_is rfl rfl (does_iarith (p := (k : Int)) (q := 1) (r := (k : Int) + 1) (ev rfl) (ev rfl) (.inl ⟨rfl, (in_i64 (by omega) (by omega)).symm⟩)) (by dsimp only [List.set]; try rfl) ?_
      refine q_is rfl rfl (does_move (u := (Iv ((k : Int) + 1))) (ev rfl)) (by dsimp only [List.set]; try rfl) ?_
      refine wpList_nil ?_
      refine ⟨k + 1, ⟨fun t => (([(Pt m_b m_o), Ud, (u35 2), (Iv (A_m.places.length : Int)), (Iv (k : Int)), (.slice p52 el1.length q53), (Pt m_b m_o), (Pt m_b m_o), (Pt m_b m_o), (.slice p5 A_m.places.length q6), (Iv (A_m.places.length : Int)), v15, v16, v17, v18, v19, v20, v21, v22, v23, (Bo (β1 || β2)), (Pt m_b m_o), (Pt m_b m_o), (Pt m_b (m_o + 1)), (.slice p8 A_m.tris.length q9), (Iv (A_m.tris.length : Int)), (Iv ((k : Int) + 1)), (Bo (icmp .lss (k : Int) (A_m.tris.length : Int))), (Iv (k : Int)), (Pt m_b m_o), (Pt m_b m_o), (Pt m_b (m_o + 1)), (.slice p8 A_m.tris.length q9), (Iv (k : Int)), (Pt b46 o47), (.slice p52 el1.length q53), v60, v61, v62, v63, v64, v65, v66, v67, v68, v69, v70, v71, v72, v73, v74, v75, v76, v77, v78, v79, v80, v81, v82, v83, v84, v85, v86, v87, v88, v89, v90, v91, v92, v93, v94, v95, v96, v97, v98, v99, v100, v101, v102, v103, v104, v105, v106, v107, v108, v109, v110, v111, v112, v113, v114, v115, (Bo β10), (Iv ((k : Int) + 1))] : List Value)[t]?).getD undef, ?_, (Ext.gr (Ext.gr E37 E57) E118), ?_⟩, ?_⟩
      · first | rfl | (simp only [Int.natCast_add, Int.natCast_one]; rfl)
      · exact ⟨by omega, AllTo.step hal (by assumption) (triS_ok (by assumption) (by assumption) (by assumption) (by assumption))⟩
      · omega
    have c42' := c42
    (try simp only [hβ1, hβ2] at c42')
    (try simp only [icmp, Bool.and_eq_true, Bool.or_eq_true, Bool.and_eq_false_iff, Bool.or_eq_false_iff, Bool.not_eq_true', Bool.not_eq_false', decide_eq_true_eq, decide_eq_false_iff_not, beq_iff_eq, bne_iff_ne, beq_eq_false_iff_ne, bne_eq_false_iff_eq] at c42')
    refine wp_exit ?_
    refine hK33 _ _ ?_
    refine wp_seq_k fun K125 hK125 => ?_
    refine wp_region_lit ?_
    refine q_is rfl rfl (does_assign (u := (Bo true)) (ev rfl)) (by dsimp only [List.set]; try rfl) ?_
    refine wpList_nil (hK125 _ _ ?_)
    refine wp_ret ?_
    refine ret_val (v := (Bo true)) (res_T rfl (slot rfl)) X39 ?_
    try simp only [hβ1, hβ2] at c30 c42
    have x126 : (meshOk A_m) = true := by first | exact meshOk_big (by assumption) | exact meshOk_bad (by assumption) (triS_bad (by assumption) (by assumption) (by assumption) (by assumption)) | exact meshOk_ok (by assumption) hal (by omega)
    exact (by first | with_reducible rfl | rw [x126] | rfl)

/- spec.l07Next -/
theorem c_spec_l07Next (m_b : Nat) (m_o : Nat) (m : List Value) (A_m : MeshT) (w : World) (hc_m : Cells w m_b m_o m) (hv_m : RMeshT w A_m m) (hmt : meshOk A_m = true) : Gives Try.prog 23 #[(Pt m_b m_o)] w (fun v w' => ∃ y_1 : Value, v = y_1 ∧ Hang w.heap.size w' (fun u => Sl (RS RI 1) 1 u y_1 (nextL A_m))) := by
  obtain ⟨y1, y3, rfl, h2, h4⟩ := hv_m
  have hs7 := h2; have hs7l := Sl.len h2; obtain ⟨p5, q6, rfl⟩ := Sl.shape h2
  have hs10 := h4; have hs10l := Sl.len h4; obtain ⟨p8, q9, rfl⟩ := Sl.shape h4
  have hml := mesh_len hmt
  refine enter [(Pt m_b m_o), Ud, Ud, Ud, Ud, Ud, Ud, Ud, Ud, Ud, Ud, Ud, Ud, Ud, Ud, Ud, Ud, Ud, Ud, Ud, Ud, Ud, Ud, Ud, Ud, Ud, Ud, Ud, Ud, Ud, Ud, Ud, Ud, Ud, Ud, Ud, Ud, Ud, Ud, Ud, Ud, Ud, Ud, Ud, Ud, Ud, Ud, Ud, Ud, Ud, Ud, Ud, Ud, Ud, Ud] Try.func23 rfl Try.ntmps23 rfl ?_
  refine wp_seq_k fun K11 hK11 => ?_
  refine wp_region_lit ?_
  refine q_is rfl rfl (does_assign (u := (.slice none 0 0)) (ev rfl)) (by dsimp only [List.set]; try rfl) ?_
  refine wpList_nil (hK11 _ _ ?_)
  refine wp_seq_k fun K12 hK12 => ?_
  refine wp_region_lit ?_
  refine q_is rfl rfl (does_move (u := (Pt m_b m_o)) (ev rfl)) (by dsimp only [List.set]; try rfl) ?_
  refine q_is rfl rfl (does_nilCheck (ev rfl)) (by dsimp only [List.set]; try rfl) ?_
  refine q_is rfl rfl (does_fieldAddr (ev rfl) fa32_0) (by dsimp only [List.set]; try rfl) ?_
  refine q_is rfl rfl (does_load (u := (.slice p5 A_m.places.length q6)) (ev rfl) Try.isAgg30 (Cells.at hc_m 0 rfl)) (by dsimp only [List.set]; try rfl) ?_
  refine q_is rfl rfl (does_len_slice Try.underlying30 (ev rfl)) (by dsimp only [List.set]; try rfl) ?_
  refine seqd rfl rfl (does_makeSlice (n := A_m.places.length) Try.underlying23 inf27 (ev rfl) (ev rfl) (by omega)) ?_; rintro _ w17 ⟨b13, rfl, hb14, ⟨cs18, hB15, hl19, hz20⟩, E16⟩
  have n21 : m_b < b13 := Nat.lt_of_lt_of_le (cell_lt (Cells.at hc_m 0 rfl)) hb14
  have g22 : w.heap.size ≤ b13 := Nat.le_trans (Below.size (Ext.refl w)) hb14
  have X23 := Ext.gr (Ext.refl w) E16
  have hR24 : RowG RVl 1 w17 b13 (List.replicate A_m.places.length (.slice none 0 0)) := RowG.made (z := (.slice none 0 0)) hB15 rfl rfl hz20 rfl
  have n26 : m_b < w17.heap.size := cell_lt (Cells.at (hc_m.ext X23) 0 rfl)
  have n27 : b13 < w17.heap.size := RowG.lt hR24
  have hN25 : NxI 2 w17.heap.size w17 (List.replicate A_m.places.length (.slice none 0 0)) (List.replicate A_m.places.length []) := NxI.zero _ (Nat.le_refl _)
  show wpList _ _ _ _ (fr [_, _, _, _, _, _, _, _, _, _, _, _, _, _, _, _, _, _, _, _, _, _, _, _, _, _, _, _, _, _, _, _, _, _, _, _, _, _, _, _, _, _, _, _, _, _, _, _, _, _, _, _, _, _, _]) _
  refine q_is rfl rfl (does_assign (u := (.slice (some ⟨b13, 0, none⟩) A_m.places.length A_m.places.length)) (ev rfl)) (by dsimp only [List.set]; try rfl) ?_
  refine wpList_nil (hK12 _ _ ?_)
  refine wp_seq_k fun K28 hK28 => ?_
  refine wp_seq_k fun K29 hK29 => ?_
  refine wp_region_lit ?_
  refine q_is rfl rfl (does_move (u := (Pt m_b m_o)) (ev rfl)) (by dsimp only [List.set]; try rfl) ?_
  refine q_is rfl rfl (does_nilCheck (ev rfl)) (by dsimp only [List.set]; try rfl) ?_
  refine q_is rfl rfl (does_fieldAddr (ev rfl) fa32_1) (by dsimp only [List.set]; try rfl) ?_
  refine q_is rfl rfl (does_load (u := (.slice p8 A_m.tris.length q9)) (ev rfl) Try.isAgg23 (Cells.at (hc_m.ext X23) 1 rfl)) (by dsimp only [List.set]; try rfl) ?_
  refine q_is rfl rfl (does_len_slice Try.underlying23 (ev rfl)) (by dsimp only [List.set]; try rfl) ?_
  refine q_is rfl rfl (does_move (u := (Iv 0)) (ev rfl)) (by dsimp only [List.set]; try rfl) ?_
  refine wpList_nil (hK29 _ _ ?_)
  refine wp_block ?_
  refine loop_ghost (σ := Nat) (fun k a w' => ∃ u30 : Nat → Value, a = fr [(Pt m_b m_o), Ud, (.slice none 0 0), (.slice (some ⟨b13, 0, none⟩) A_m.places.length A_m.places.length), (u30 4), (u30 5), (u30 6), (Pt m_b m_o), (Pt m_b m_o), (Pt m_b m_o), (.slice p5 A_m.places.length q6), (Iv (A_m.places.length : Int)), (.slice (some ⟨b13, 0, none⟩) A_m.places.length A_m.places.length), (Pt m_b m_o), (Pt m_b m_o), (Pt m_b (m_o + 1)), (.slice p8 A_m.tris.length q9), (Iv (A_m.tris.length : Int)), (Iv (k : Int)), (u30 19), (u30 20), (u30 21), (u30 22), (u30 23), (u30 24), (u30 25), (u30 26), (u30 27), (u30 28), (u30 29), (u30 30), (u30 31), (u30 32), (u30 33), (u30 34), (u30 35), (u30 36), (u30 37), (u30 38), (u30 39), (u30 40), (u30 41), (u30 42), (u30 43), (u30 44), (u30 45), (u30 46), (u30 47), (u30 48), (u30 49), (u30 50), (u30 51), (u30 52), (u30 53), Ud] ∧ KpC w17.heap.size [b13] w17 w' ∧ (∃ vs, RowG RVl 1 w' b13 vs ∧ NxI 2 w17.heap.size w' vs (nextTo A_m k)) ∧ (k ≤ A_m.tris.length)) (fun k => A_m.tris.length - k) 0 ?_ ?_
  · refine ⟨fun t => (([(Pt m_b m_o), Ud, (.slice none 0 0), (.slice (some ⟨b13, 0, none⟩) A_m.places.length A_m.places.length), Ud, Ud, Ud, (Pt m_b m_o), (Pt m_b m_o), (Pt m_b m_o), (.slice p5 A_m.places.length q6), (Iv (A_m.places.length : Int)), (.slice (some ⟨b13, 0, none⟩) A_m.places.length A_m.places.length), (Pt m_b m_o), (Pt m_b m_o), (Pt m_b (m_o + 1)), (.slice p8 A_m.tris.length q9), (Iv (A_m.tris.length : Int)), (Iv 0), Ud, Ud, Ud, Ud, Ud, Ud, Ud, Ud, Ud, Ud, Ud, Ud, Ud, Ud, Ud, Ud, Ud, Ud, Ud, Ud, Ud, Ud, Ud, Ud, Ud, Ud, Ud, Ud, Ud, Ud, Ud, Ud, Ud, Ud, Ud, Ud] : List Value)[t]?).getD undef, rfl, KpC.refl _ _ _, ⟨_, hR24, NxI.cast (NxI.zero _ (Nat.le_refl _)) (by (try dsimp only); rfl)⟩, ?_⟩
    exact Nat.zero_le _
  · rintro k a w31 ⟨u30, rfl, E32, ⟨vs0_k, hRv0, hNx0⟩, hk⟩
    obtain ⟨Lx34, K35, hL36⟩ := E32
    have X37 := Below.kl X23 K35 (fun c hc => (hL36 c hc).elim ((allS g22 all0) c) (fun h => Nat.le_trans (Below.size X23) h)) (Nat.le_refl _)
    have hR38 := hRv0; have hN39 := hNx0; clear hRv0 hNx0; have hvl39 := (NxI.len hN39).trans (show (nextTo A_m k).length = A_m.places.length from by simp only [nxQ_len, nextTo_len])
    refine wp_seq_k fun K40 hK40 => ?_
    refine wp_region_lit ?_
    refine q_is rfl rfl (does_icmp (p := (k : Int)) (q := (A_m.tris.length : Int)) (.inr (.inr (.inl rfl))) (ev rfl) (ev rfl)) (by dsimp only [List.set]; try rfl) ?_
    refine wpList_nil (hK40 _ _ ?_)
    refine wp_seq_k fun K41 hK41 => ?_
    refine wp_cond_split (t := icmp .lss (k : Int) (A_m.tris.length : Int)) (ev rfl) (fun c42 => ?_) (fun c42 => ?_)
    · have c42' := c42
      (try simp only [icmp, Bool.and_eq_true, Bool.or_eq_true, Bool.and_eq_false_iff, Bool.or_eq_false_iff, Bool.not_eq_true', Bool.not_eq_false', decide_eq_true_eq, decide_eq_false_iff_not, beq_iff_eq, bne_iff_ne, beq_eq_false_iff_ne, bne_eq_false_iff_eq] at c42')
      refine wp_skip (hK41 _ _ ?_)
      refine wp_seq_k fun K43 hK43 => ?_
      refine wp_block ?_
      refine wp_seq_k fun K44 hK44 => ?_
      refine wp_region_lit ?_
      refine q_is rfl rfl (does_move (u := (Iv (k : Int))) (ev rfl)) (by dsimp only [List.set]; try rfl) ?_
      refine q_is rfl rfl (does_assign (u := (Iv (k : Int))) (ev rfl)) (by dsimp only [List.set]; try rfl) ?_
      refine wpList_nil (hK44 _ _ ?_)
      refine wp_seq_k fun K45 hK45 => ?_
      refine wp_region_lit ?_
      refine q_is rfl rfl (does_move (u := (Pt m_b m_o)) (ev rfl)) (by dsimp only [List.set]; try rfl) ?_
      refine q_is rfl rfl (does_nilCheck (ev rfl)) (by dsimp only [List.set]; try rfl) ?_
      refine q_is rfl rfl (does_fieldAddr (ev rfl) fa32_1) (by dsimp only [List.set]; try rfl) ?_
      refine q_is rfl rfl (does_load (u := (.slice p8 A_m.tris.length q9)) (ev rfl) Try.isAgg23 (Cells.at (hc_m.ext X37) 1 rfl)) (by dsimp only [List.set]; try rfl) ?_
      refine q_is rfl rfl (does_move (u := (Iv (k : Int))) (ev rfl)) (by dsimp only [List.set]; try rfl) ?_
      obtain ⟨el1, hel1⟩ : ∃ e, A_m.tris[k]? = some e := ⟨_, List.getElem?_eq_getElem (by omega)⟩
      refine seqd rfl rfl (does_indexSl0 (R := (RS RI 1)) (i := (k : Int)) (xs := A_m.tris) (e := el1) Try.underlying23 Try.sizeOf27 (ev rfl) (ev rfl) hs10 (by omega) hel1) ?_; rintro _ w31 ⟨b46, o47, _, rfl, hc49, ⟨y50, rfl, h51⟩, rfl⟩
      have hs54 := h51; have hs54l := Sl.len h51; obtain ⟨p52, q53, rfl⟩ := Sl.shape h51
      show wpList _ _ _ _ (fr [_, _, _, _, _, _, _, _, _, _, _, _, _, _, _, _, _, _, _, _, _, _, _, _, _, _, _, _, _, _, _, _, _, _, _, _, _, _, _, _, _, _, _, _, _, _, _, _, _, _, _, _, _, _, _]) _
      refine q_is rfl rfl (does_load (u := (.slice p52 el1.length q53)) (ev rfl) Try.isAgg27 (Cells.at (hc49.ext X37) 0 rfl)) (by dsimp only [List.set]; try rfl) ?_
      refine q_is rfl rfl (does_assign (u := (.slice p52 el1.length q53)) (ev rfl)) (by dsimp only [List.set]; try rfl) ?_
      refine wpList_nil (hK45 _ _ ?_)
      refine wp_seq_k fun K55 hK55 => ?_
      refine wp_region_lit ?_
      refine q_is rfl rfl (does_assign (u := (Iv 0)) (ev rfl)) (by dsimp only [List.set]; try rfl) ?_
      refine wpList_nil (hK55 _ _ ?_)
      refine wp_block ?_
      refine loop_ghost (σ := Nat) (fun q a w' => ∃ u56 : Nat → Value, a = fr [(Pt m_b m_o), Ud, (.slice none 0 0), (.slice (some ⟨b13, 0, none⟩) A_m.places.length A_m.places.length), (Iv (k : Int)), (.slice p52 el1.length q53), (Iv (q : Int)), (Pt m_b m_o), (Pt m_b m_o), (Pt m_b m_o), (.slice p5 A_m.places.length q6), (Iv (A_m.places.length : Int)), (.slice (some ⟨b13, 0, none⟩) A_m.places.length A_m.places.length), (Pt m_b m_o), (Pt m_b m_o), (Pt m_b (m_o + 1)), (.slice p8 A_m.tris.length q9), (Iv (A_m.tris.length : Int)), (Iv (k : Int)), (Bo (icmp .lss (k : Int) (A_m.tris.length : Int))), (Iv (k : Int)), (Pt m_b m_o), (Pt m_b m_o), (Pt m_b (m_o + 1)), (.slice p8 A_m.tris.length q9), (Iv (k : Int)), (Pt b46 o47), (.slice p52 el1.length q53), (u56 28), (u56 29), (u56 30), (u56 31), (u56 32), (u56 33), (u56 34), (u56 35), (u56 36), (u56 37), (u56 38), (u56 39), (u56 40), (u56 41), (u56 42), (u56 43), (u56 44), (u56 45), (u56 46), (u56 47), (u56 48), (u56 49), (u56 50), (u56 51), (u56 52), (u30 53), Ud] ∧ KpC w17.heap.size [b13] w31 w' ∧ (∃ vs, RowG RVl 1 w' b13 vs ∧ NxI 2 w17.heap.size w' vs (nxQ el1 (nextTo A_m k) q)) ∧ (q ≤ 3)) (fun q => 3 - q) 0 ?_ ?_
      · refine ⟨fun t => (([(Pt m_b m_o), Ud, (.slice none 0 0), (.slice (some ⟨b13, 0, none⟩) A_m.places.length A_m.places.length), (Iv (k : Int)), (.slice p52 el1.length q53), (Iv 0), (Pt m_b m_o), (Pt m_b m_o), (Pt m_b m_o), (.slice p5 A_m.places.length q6), (Iv (A_m.places.length : Int)), (.slice (some ⟨b13, 0, none⟩) A_m.places.length A_m.places.length), (Pt m_b m_o), (Pt m_b m_o), (Pt m_b (m_o + 1)), (.slice p8 A_m.tris.length q9), (Iv (A_m.tris.length : Int)), (Iv (k : Int)), (Bo (icmp .lss (k : Int) (A_m.tris.length : Int))), (Iv (k : Int)), (Pt m_b m_o), (Pt m_b m_o), (Pt m_b (m_o + 1)), (.slice p8 A_m.tris.length q9), (Iv (k : Int)), (Pt b46 o47), (.slice p52 el1.length q53), (u30 28), (u30 29), (u30 30), (u30 31), (u30 32), (u30 33), (u30 34), (u30 35), (u30 36), (u30 37), (u30 38), (u30 39), (u30 40), (u30 41), (u30 42), (u30 43), (u30 44), (u30 45), (u30 46), (u30 47), (u30 48), (u30 49), (u30 50), (u30 51), (u30 52), (u30 53), Ud] : List Value)[t]?).getD undef, rfl, KpC.refl _ _ _, ⟨_, hR38, NxI.cast hN39 (by (try dsimp only); rfl)⟩, ?_⟩
        exact Nat.zero_le _
      · rintro q a w57 ⟨u56, rfl, E58, ⟨vs0_q, hRv0, hNx0⟩, hq⟩
        obtain ⟨Lx60, K61, hL62⟩ := E58
        have X63 := Below.kl X37 K61 (fun c hc => (hL62 c hc).elim ((allS g22 all0) c) (fun h => Nat.le_trans (Below.size (Ext.gr (Ext.refl _) E16)) h)) (Nat.le_refl _)
        have hR64 := hRv0; have hN65 := hNx0; clear hRv0 hNx0; have hvl65 := (NxI.len hN65).trans (show (nxQ el1 (nextTo A_m k) q).length = A_m.places.length from by simp only [nxQ_len, nextTo_len])
        refine wp_seq_k fun K66 hK66 => ?_
        refine wp_seq_k fun K67 hK67 => ?_
        refine wp_region_lit ?_
        refine q_is rfl rfl (does_move (u := (Iv (q : Int))) (ev rfl)) (by dsimp only [List.set]; try rfl) ?_
        refine q_is rfl rfl (does_icmp (p := (q : Int)) (q := 3) (.inr (.inr (.inl rfl))) (ev rfl) (ev rfl)) (by dsimp only [List.set]; try rfl) ?_
        refine wpList_nil (hK67 _ _ ?_)
        refine wp_cond_split (t := icmp .lss (q : Int) 3) (ev rfl) (fun c68 => ?_) (fun c68 => ?_)
        · have c68' := c68
          (try simp only [icmp, Bool.and_eq_true, Bool.or_eq_true, Bool.and_eq_false_iff, Bool.or_eq_false_iff, Bool.not_eq_true', Bool.not_eq_false', decide_eq_true_eq, decide_eq_false_iff_not, beq_iff_eq, bne_iff_ne, beq_eq_false_iff_ne, bne_eq_false_iff_eq] at c68')
          refine wp_skip (hK66 _ _ ?_)
          refine wp_seq_k fun K69 hK69 => ?_
          refine wp_block ?_
          have htr := mesh_tri hmt hel1
          have ht3 := htr.1
          obtain ⟨el2, hel2⟩ : ∃ e, el1[q]? = some e := ⟨_, List.getElem?_eq_getElem (by omega)⟩
          have hbk := htr.2 _ (List.mem_of_getElem? hel2)
          obtain ⟨el3, hel3⟩ : ∃ e, vs0_q[el2.toNat]? = some e := ⟨_, List.getElem?_eq_getElem (by first | assumption | omega | (simp only [nxQ_len, nextTo_len, List.length_set, List.length_replicate]; omega) | (simp only [nxQ_len, nextTo_len, List.length_set, List.length_replicate]; done))⟩
          obtain ⟨xl4, hxl4⟩ : ∃ x, (nxQ el1 (nextTo A_m k) q)[el2.toNat]? = some x := ⟨_, List.getElem?_eq_getElem (by rw [← NxI.len hN65]; first | assumption | omega | (simp only [nxQ_len, nextTo_len, List.length_set, List.length_replicate]; omega) | (simp only [nxQ_len, nextTo_len, List.length_set, List.length_replicate]; done))⟩
          obtain ⟨gg73, hC74, hgb4, hA76⟩ := NxI.own hN65 hel3 hxl4
          obtain ⟨px4, qx4, rfl⟩ := Own.shape (hA76 0)
          have g75 : w.heap.size ≤ gg73 := Nat.le_trans (Below.size E16) hC74
          obtain ⟨el5, hel5⟩ : ∃ e, el1[(((q : Int) + 1) % 3).toNat]? = some e := ⟨_, List.getElem?_eq_getElem (by omega)⟩
          refine region_any2 [gg73] [0, 0, 0, 6, 14, 0, 0, 0, 192, 448, 992, 2016, 0, 0, 8192, 24576, 61440, 126976, 258048, 524256, 1048575, 2097151] [0] (
            [FactW.pure [] [0] [0] true (fun v => v = (.slice (some ⟨b13, 0, none⟩) A_m.places.length A_m.places.length)),
              FactW.pure [] [0] [0] true (fun v => v = (.slice p52 el1.length q53)),
              FactW.pure [] [0] [0] true (fun v => v = (Iv (q : Int))),
              FactW.pure [1, 2] [0] [0] true (fun v => PtrR RI w v el2),
              FactW.pure [3] [0] [0] true (fun v => v = (Iv el2)),
              FactW.pure [] [] [0] true (fun v => v = (.slice (some ⟨b13, 0, none⟩) A_m.places.length A_m.places.length)),
              FactW.pure [] [] [0] true (fun v => v = (.slice p52 el1.length q53)),
              FactW.pure [] [] [0] true (fun v => v = (Iv (q : Int))),
              FactW.pure [6, 7] [] [0] true (fun v => PtrR RI w v el2),
              FactW.pure [8] [] [0] true (fun v => v = (Iv el2)),
              FactW.pure [5, 9] [] [0] true (fun v => v = (Pt b13 (el2.toNat * 1))),
              FactW.pure [10] [] [0] true (fun v => v = (.slice px4 xl4.length qx4)),
              FactW.pure [] [] [0] true (fun v => v = (.slice p52 el1.length q53)),
              FactW.pure [] [] [0] true (fun v => v = (Iv (q : Int))),
              FactW.pure [13] [] [0] true (fun v => v = (Iv ((q : Int) + 1))),
              FactW.pure [14] [] [0] true (fun v => v = (Iv (((q : Int) + 1) % 3))),
              FactW.pure [12, 15] [] [0] true (fun v => PtrR RI w v el5),
              FactW.pure [16] [] [0] true (fun v => v = (Iv el5)),
              FactW.mem [17] [] [] [] false (fun v w' => ∃ b : Nat, v = .slice (some ⟨b, 0, none⟩) 1 1 ∧ w57.heap.size ≤ b ∧ Blk w' b [(Iv el5)]) (by rintro v w1 w2 hx' ⟨b, rfl, hb, hB⟩; have hx := KpL.toExt hx'; exact ⟨b, rfl, hb, (hB.ext hx)⟩),
              FactW.mem [11, 18] [] [0] [] true (fun v w' => Own RI 1 2 gg73 w57.heap.size w' v (xl4 ++ [el5])) (by intro v w1 w2 hx h; exact Own.ext h RI.flat (KpL.toExt hx))]) mixed (by kernel_rfl) ?_
          obtain ⟨w70, hw72⟩ : ∃ w', w' = World.drew w57 := ⟨_, rfl⟩; rw [← hw72]; have E71 : Ext w57 w70 := by rw [hw72]; exact Ext.draw _
          clear hw72
          have X77 := Ext.gr X63 E71
          refine RW2_d _ rfl (fun v => by dsimp only [List.set]; try rfl) (fun u hu hF => ?_) (fun v78 => ?_)
          · replace hu : KpL [gg73] _ _ := hu
            clear hF
            refine doesG_un rfl ?_
            refine (does_move (u := (.slice (some ⟨b13, 0, none⟩) A_m.places.length A_m.places.length)) (ev rfl)).mono ?_; rintro _ _ ⟨rfl, rfl⟩
            exact ⟨rfl, KpL.refl _ _⟩
          refine RW2_d _ rfl (fun v => by dsimp only [List.set]; try rfl) (fun u hu hF => ?_) (fun v79 => ?_)
          · replace hu : KpL [gg73] _ _ := hu
            clear hF
            refine doesG_un rfl ?_
            refine (does_move (u := (.slice p52 el1.length q53)) (ev rfl)).mono ?_; rintro _ _ ⟨rfl, rfl⟩
            exact ⟨rfl, KpL.refl _ _⟩
          refine RW2_d _ rfl (fun v => by dsimp only [List.set]; try rfl) (fun u hu hF => ?_) (fun v80 => ?_)
          · replace hu : KpL [gg73] _ _ := hu
            clear hF
            refine doesG_un rfl ?_
            refine (does_move (u := (Iv (q : Int))) (ev rfl)).mono ?_; rintro _ _ ⟨rfl, rfl⟩
            exact ⟨rfl, KpL.refl _ _⟩
          refine RW2_d _ rfl (fun v => by dsimp only [List.set]; try rfl) (fun u hu hF => ?_) (fun v81 => ?_)
          · replace hu : KpL [gg73] _ _ := hu
            have h33_ : v79 = (.slice p52 el1.length q53) := hF.1
            have h34_ : v80 = (Iv (q : Int)) := hF.2.1
            clear hF
            refine doesG_un rfl ?_
            obtain rfl := h33_
            obtain rfl := h34_
            refine (does_indexSl0 (R := RI) (i := (q : Int)) (xs := el1) (e := el2) Try.underlying27 Try.sizeOf2 (ev rfl) (ev rfl) hs54 (by omega) hel2).mono ?_; rintro v u' ⟨b, of, cs, hv, hc, hR, hu'⟩; subst hu'
            exact ⟨⟨b, of, cs, hv, hc, hR⟩, KpL.refl _ _⟩
          refine RW2_d _ rfl (fun v => by dsimp only [List.set]; try rfl) (fun u hu hF => ?_) (fun v82 => ?_)
          · replace hu : KpL [gg73] _ _ := hu
            have h35_ : PtrR RI w v81 el2 := hF.1
            clear hF
            refine doesG_un rfl ?_
            obtain ⟨b35_, o35_, _, rfl, hc35_, rfl⟩ := h35_
            refine (does_load (u := (Iv el2)) (ev rfl) Try.isAgg2 (Cells.at (hc35_.ext (Below.kl (Ext.gr X63 E71) hu (allS g75 all0) (Nat.le_refl _))) 0 rfl)).mono ?_; rintro _ _ ⟨rfl, rfl⟩
            exact ⟨rfl, KpL.refl _ _⟩
          refine RW2_d _ rfl (fun v => by dsimp only [List.set]; try rfl) (fun u hu hF => ?_) (fun v83 => ?_)
          · replace hu : KpL [] _ _ := hu
            clear hF
            refine doesG_un rfl ?_
            refine (does_move (u := (.slice (some ⟨b13, 0, none⟩) A_m.places.length A_m.places.length)) (ev rfl)).mono ?_; rintro _ _ ⟨rfl, rfl⟩
            exact ⟨rfl, KpL.refl _ _⟩
          refine RW2_d _ rfl (fun v => by dsimp only [List.set]; try rfl) (fun u hu hF => ?_) (fun v84 => ?_)
          · replace hu : KpL [] _ _ := hu
            clear hF
            refine doesG_un rfl ?_
            refine (does_move (u := (.slice p52 el1.length q53)) (ev rfl)).mono ?_; rintro _ _ ⟨rfl, rfl⟩
            exact ⟨rfl, KpL.refl _ _⟩
          refine RW2_d _ rfl (fun v => by dsimp only [List.set]; try rfl) (fun u hu hF => ?_) (fun v85 => ?_)
          · replace hu : KpL [] _ _ := hu
            clear hF
            refine doesG_un rfl ?_
            refine (does_move (u := (Iv (q : Int))) (ev rfl)).mono ?_; rintro _ _ ⟨rfl, rfl⟩
            exact ⟨rfl, KpL.refl _ _⟩
          refine RW2_d _ rfl (fun v => by dsimp only [List.set]; try rfl) (fun u hu hF => ?_) (fun v86 => ?_)
          · replace hu : KpL [] _ _ := hu
            have h38_ : v84 = (.slice p52 el1.length q53) := hF.1
            have h39_ : v85 = (Iv (q : Int)) := hF.2.1
            clear hF
            refine doesG_un rfl ?_
            obtain rfl := h38_
            obtain rfl := h39_
            refine (does_indexSl0 (R := RI) (i := (q : Int)) (xs := el1) (e := el2) Try.underlying27 Try.sizeOf2 (ev rfl) (ev rfl) hs54 (by omega) hel2).mono ?_; rintro v u' ⟨b, of, cs, hv, hc, hR, hu'⟩; subst hu'
            exact ⟨⟨b, of, cs, hv, hc, hR⟩, KpL.refl _ _⟩
          refine RW2_d _ rfl (fun v => by dsimp only [List.set]; try rfl) (fun u hu hF => ?_) (fun v87 => ?_)
          · replace hu : KpL [] _ _ := hu
            have h40_ : PtrR RI w v86 el2 := hF.1
            clear hF
            refine doesG_un rfl ?_
            obtain ⟨b40_, o40_, _, rfl, hc40_, rfl⟩ := h40_
            refine (does_load (u := (Iv el2)) (ev rfl) Try.isAgg2 (Cells.at (hc40_.ext (Ext.gr (Ext.gr X63 E71) (KpL.toExt hu))) 0 rfl)).mono ?_; rintro _ _ ⟨rfl, rfl⟩
            exact ⟨rfl, KpL.refl _ _⟩
          refine RW2_d _ rfl (fun v => by dsimp only [List.set]; try rfl) (fun u hu hF => ?_) (fun v88 => ?_)
          · replace hu : KpL [] _ _ := hu
            have h37_ : v83 = (.slice (some ⟨b13, 0, none⟩) A_m.places.length A_m.places.length) := hF.1
            have h41_ : v87 = (Iv el2) := hF.2.1
            clear hF
            refine doesG_un rfl ?_
            obtain rfl := h37_
            obtain rfl := h41_
            refine (does_indexOwn (b := b13) (n := A_m.places.length) (i := el2) Try.underlying23 Try.sizeOf27 (ev rfl) (ev rfl) (by omega) (by omega)).mono ?_; rintro _ _ ⟨rfl, rfl⟩
            exact ⟨rfl, KpL.refl _ _⟩
          refine RW2_d _ rfl (fun v => by dsimp only [List.set]; try rfl) (fun u hu hF => ?_) (fun v89 => ?_)
          · replace hu : KpL [] _ _ := hu
            have h42_ : v88 = (Pt b13 (el2.toNat * 1)) := hF.1
            clear hF
            refine doesG_un rfl ?_
            obtain rfl := h42_
            refine (does_loadRowV (xs := vs0_q) (i := el2.toNat) (e := (.slice px4 xl4.length qx4)) (ev rfl) Try.isAgg27 (RowG.ext (RowG.ext hR64 RVl.flat E71) RVl.flat (KpL.toExt hu)) rfl hel3).mono ?_; rintro _ _ ⟨rfl, rfl⟩
            exact ⟨rfl, KpL.refl _ _⟩
          refine RW2_d _ rfl (fun v => by dsimp only [List.set]; try rfl) (fun u hu hF => ?_) (fun v90 => ?_)
          · replace hu : KpL [] _ _ := hu
            clear hF
            refine doesG_un rfl ?_
            refine (does_move (u := (.slice p52 el1.length q53)) (ev rfl)).mono ?_; rintro _ _ ⟨rfl, rfl⟩
            exact ⟨rfl, KpL.refl _ _⟩
          refine RW2_d _ rfl (fun v => by dsimp only [List.set]; try rfl) (fun u hu hF => ?_) (fun v91 => ?_)
          · replace hu : KpL [] _ _ := hu
            clear hF
            refine doesG_un rfl ?_
            refine (does_move (u := (Iv (q : Int))) (ev rfl)).mono ?_; rintro _ _ ⟨rfl, rfl⟩
            exact ⟨rfl, KpL.refl _ _⟩
          refine RW2_d _ rfl (fun v => by dsimp only [List.set]; try rfl) (fun u hu hF => ?_) (fun v92 => ?_)
          · replace hu : KpL [] _ _ := hu
            have h45_ : v91 = (Iv (q : Int)) := hF.1
            clear hF
            refine doesG_un rfl ?_
            obtain rfl := h45_
            refine (does_iarith (p := (q : Int)) (q := 1) (r := (q : Int) + 1) (ev rfl) (ev rfl) (.inl ⟨rfl, (in_i64 (by omega) (by omega)).symm⟩)).mono ?_; rintro _ _ ⟨rfl, rfl⟩
            exact ⟨rfl, KpL.refl _ _⟩
          refine RW2_d _ rfl (fun v => by dsimp only [List.set]; try rfl) (fun u hu hF => ?_) (fun v93 => ?_)
          · replace hu : KpL [] _ _ := hu
            have h46_ : v92 = (Iv ((q : Int) + 1)) := hF.1
            clear hF
            refine doesG_un rfl ?_
            obtain rfl := h46_
            refine (does_irem (p := (q : Int) + 1) (q := 3) (ev rfl) (ev rfl) (by first | omega | (have hbn := nxQ_most hxl4; simp only [List.length_cons, List.length_nil]; omega)) (by first | omega | (have hbn := nxQ_most hxl4; simp only [List.length_cons, List.length_nil]; omega)) (by first | omega | (have hbn := nxQ_most hxl4; simp only [List.length_cons, List.length_nil]; omega))).mono ?_; rintro _ _ ⟨rfl, rfl⟩
            exact ⟨rfl, KpL.refl _ _⟩
          refine RW2_d _ rfl (fun v => by dsimp only [List.set]; try rfl) (fun u hu hF => ?_) (fun v94 => ?_)
          · replace hu : KpL [] _ _ := hu
            have h44_ : v90 = (.slice p52 el1.length q53) := hF.1
            have h47_ : v93 = (Iv (((q : Int) + 1) % 3)) := hF.2.1
            clear hF
            refine doesG_un rfl ?_
            obtain rfl := h44_
            obtain rfl := h47_
            refine (does_indexSl0 (R := RI) (i := ((q : Int) + 1) % 3) (xs := el1) (e := el5) Try.underlying27 Try.sizeOf2 (ev rfl) (ev rfl) hs54 (by omega) hel5).mono ?_; rintro v u' ⟨b, of, cs, hv, hc, hR, hu'⟩; subst hu'
            exact ⟨⟨b, of, cs, hv, hc, hR⟩, KpL.refl _ _⟩
          refine RW2_d _ rfl (fun v => by dsimp only [List.set]; try rfl) (fun u hu hF => ?_) (fun v95 => ?_)
          · replace hu : KpL [] _ _ := hu
            have h48_ : PtrR RI w v94 el5 := hF.1
            clear hF
            refine doesG_un rfl ?_
            obtain ⟨b48_, o48_, _, rfl, hc48_, rfl⟩ := h48_
            refine (does_load (u := (Iv el5)) (ev rfl) Try.isAgg2 (Cells.at (hc48_.ext (Ext.gr (Ext.gr X63 E71) (KpL.toExt hu))) 0 rfl)).mono ?_; rintro _ _ ⟨rfl, rfl⟩
            exact ⟨rfl, KpL.refl _ _⟩
          refine RW2_d _ rfl (fun v => by dsimp only [List.set]; try rfl) (fun u hu hF => ?_) (fun v96 => ?_)
          · replace hu : KpL [] _ _ := hu
            have h49_ : v95 = (Iv el5) := hF.1
            clear hF
            refine doesG_un rfl ?_
            obtain rfl := h49_
            refine (does_buildSlice (e := 2) (parts' := [(0, (Iv el5))]) (cells := [(Iv el5)]) (evp rfl) (fun _ => by kernel_rfl)).mono ?_; rintro _ _ ⟨b, rfl, hb, hB, hx⟩
            exact ⟨⟨b, rfl, Nat.le_trans (Nat.le_trans (Below.size E71) (KpL.size hu)) hb, hB⟩, (KpL.of_ext hx)⟩
          refine RW2_d _ rfl (fun v => by dsimp only [List.set]; try rfl) (fun u hu hF => ?_) (fun v97 => ?_)
          · replace hu : KpL [] _ _ := hu
            have h43_ : v89 = (.slice px4 xl4.length qx4) := hF.1
            have h50_ : ∃ b : Nat, v96 = .slice (some ⟨b, 0, none⟩) 1 1 ∧ w57.heap.size ≤ b ∧ Blk u b [(Iv el5)] := hF.2.1
            clear hF
            refine doesG_un rfl ?_
            obtain rfl := h43_
            obtain ⟨b50_, rfl, hb50_, hB50_⟩ := h50_
            refine (does_appendA (R := RI) (k := 1) (g1 := gg73) (N0 := w57.heap.size) (xs := xl4) (ys := [el5]) Try.underlying27 inf2 rfl (by decide) (ev rfl) (ev rfl) (Own.klA (Own.klA hA76 RI.flat (KpL.of_ext (L := []) E71) nin0) RI.flat (KpL.of_ext (L := []) (KpL.toExt hu)) nin0) RI.flat hB50_ rfl rfl rfl (fun i x hi => lit1 (R := RI) (cs := [(Iv el5)]) (y := el5)  rfl i x hi) (by first | (simp only [List.length_append, List.length_cons, List.length_nil]; omega) | (have hbn := nxQ_most hxl4; simp only [List.length_cons, List.length_nil]; omega)) (Nat.le_trans (Below.size E71) (KpL.size hu))).mono ?_; rintro v u' ⟨hK, hO⟩
            exact ⟨hO, hK⟩
          refine RW2_fin ?_; intro w98 E99 hP100; replace E99 : KpL [gg73] _ _ := E99
          obtain ⟨⟨⟨⟨⟨⟨⟨⟨⟨⟨⟨⟨⟨⟨⟨⟨⟨⟨⟨⟨-, q101⟩, -⟩, -⟩, -⟩, q102⟩, -⟩, -⟩, -⟩, -⟩, -⟩, -⟩, -⟩, -⟩, -⟩, -⟩, -⟩, -⟩, -⟩, -⟩, q103⟩ := hP100
          have X104 := Below.kl X77 E99 (allS g75 all0) (Nat.le_refl _)
          have q101 : v78 = (.slice (some ⟨b13, 0, none⟩) A_m.places.length A_m.places.length) := q101 rfl
          obtain rfl := q101
          have q102 : v82 = (Iv el2) := q102 rfl
          obtain rfl := q102
          have q103 : Own RI 1 2 gg73 w57.heap.size w98 v97 (xl4 ++ [el5]) := q103 rfl
          obtain ⟨p105, q106, rfl⟩ := Own.shape q103
          have hH107 : Hang w17.heap.size w98 (fun u => Sl RI 1 u (.slice p105 ((xl4 ++ [el5]).length) q106) (xl4 ++ [el5])) := Own.hang q103 RI.flat (by decide) hC74 (Nat.le_trans (KpL.size K35) (KpL.size K61))
          show wpList _ _ _ _ (fr [_, _, _, _, _, _, _, _, _, _, _, _, _, _, _, _, _, _, _, _, _, _, _, _, _, _, _, _, _, _, _, _, _, _, _, _, _, _, _, _, _, _, _, _, _, _, _, _, _, _, _, _, _, _, _]) _
          refine q_is rfl rfl (does_indexOwn (b := b13) (n := A_m.places.length) (i := el2) Try.underlying23 Try.sizeOf27 (ev rfl) (ev rfl) (by omega) (by omega)) (by dsimp only [List.set]; try rfl) ?_
          have hN111 := NxI.put hN65 hel3 hgb4 (KpL.more (KpL.ext (KpL.refl _ _) E71) E99 (allS (.inl (by simp)) all0)) q103 (Nat.le_refl _)
          refine seqn rfl rfl (does_storeRowG (R := RVl) (k := 1) (xs := vs0_q) (i := el2.toNat) (u := (.slice p105 ((xl4 ++ [el5]).length) q106)) (e := (.slice p105 ((xl4 ++ [el5]).length) q106)) (ev rfl) (ev rfl) Try.sizeOf27 rfl rfl RVl.flat (RowG.kl (RowG.ext hR64 RVl.flat E71) RVl.flat E99 (ninS (Nat.ne_of_lt (Nat.lt_of_lt_of_le n27 hC74)) nin0)) rfl (by first | assumption | omega | (simp only [nxQ_len, nextTo_len, List.length_set, List.length_replicate]; omega) | (simp only [nxQ_len, nextTo_len, List.length_set, List.length_replicate]; done)) rfl) ?_; rintro _ w110 ⟨rfl, W108, hR109⟩
          have X112 := Below.wr X104 W108 g22
          refine wpList_nil (hK69 _ _ ?_)
          refine wp_region_lit ?_
          refine q_is rfl rfl (does_move (u := (Iv (q : Int))) (ev rfl)) (by dsimp only [List.set]; try rfl) ?_
          refine q_is rfl rfl (does_iarith (p := (q : Int)) (q := 1) (r := (q : Int) + 1) (ev rfl) (ev rfl) (.inl ⟨rfl, (in_i64 (by omega) (by omega)).symm⟩)) (by dsimp only [List.set]; try rfl) ?_
          refine q_is rfl rfl (does_assign (u := (Iv ((q : Int) + 1))) (ev rfl)) (by dsimp only [List.set]; try rfl) ?_
          refine wpList_nil ?_
          have hN113 := NxI.cast (yss := ((fun (q : Nat) => nxQ el1 (nextTo A_m k) q) (q + 1))) (NxI.wr hN111 W108 n27) (by (try dsimp only); exact nxQ_step hel2 hel5 hxl4)
          refine ⟨q + 1, ⟨fun t => (([(Pt m_b m_o), Ud, (.slice none 0 0), (.slice (some ⟨b13, 0, none⟩) A_m.places.length A_m.places.length), (Iv (k : Int)), (.slice p52 el1.length q53), (Iv ((q : Int) + 1)), (Pt m_b m_o), (Pt m_b m_o), (Pt m_b m_o), (.slice p5 A_m.places.length q6), (Iv (A_m.places.length : Int)), (.slice (some ⟨b13, 0, none⟩) A_m.places.length A_m.places.length), (Pt m_b m_o), (Pt m_b m_o), (Pt m_b (m_o + 1)), (.slice p8 A_m.tris.length q9), (Iv (A_m.tris.length : Int)), (Iv (k : Int)), (Bo (icmp .lss (k : Int) (A_m.tris.length : Int))), (Iv (k : Int)), (Pt m_b m_o), (Pt m_b m_o), (Pt m_b (m_o + 1)), (.slice p8 A_m.tris.length q9), (Iv (k : Int)), (Pt b46 o47), (.slice p52 el1.length q53), (Iv (q : Int)), (Bo (icmp .lss (q : Int) 3)), (Iv (q : Int)), (Iv ((q : Int) + 1)), (.slice (some ⟨b13, 0, none⟩) A_m.places.length A_m.places.length), v79, v80, v81, (Iv el2), v83, v84, v85, v86, v87, v88, v89, v90, v91, v92, v93, v94, v95, v96, (.slice p105 ((xl4 ++ [el5]).length) q106), (Pt b13 (el2.toNat * 1)), (u30 53), Ud] : List Value)[t]?).getD undef, ?_, (KpC.kl (KpC.kl (KpC.ext (KpC.mk K61 hL62) E71) E99 (allS (.inr (Nat.le_trans (Nat.le_refl _) hC74)) all0)) (KpL.of_wr W108) (allS (.inl (by simp)) all0)), ⟨_, hR109, hN113⟩, ?_⟩, ?_⟩
          · first | rfl | (simp only [Int.natCast_add, Int.natCast_one]; rfl)
          · (try dsimp only); omega
          · (try dsimp only); omega
        have c68' := c68
        (try simp only [icmp, Bool.and_eq_true, Bool.or_eq_true, Bool.and_eq_false_iff, Bool.or_eq_false_iff, Bool.not_eq_true', Bool.not_eq_false', decide_eq_true_eq, decide_eq_false_iff_not, beq_iff_eq, bne_iff_ne, beq_eq_false_iff_ne, bne_eq_false_iff_eq] at c68')
        refine wp_exit ?_
        refine hK43 _ _ ?_
        refine wp_region_lit ?_
        refine q_is rfl rfl (does_iarith (p := (k : Int)) (q := 1) (r := (k : Int) + 1) (ev rfl) (ev rfl) (.inl ⟨rfl, (in_i64 (by omega) (by omega)).symm⟩)) (by dsimp only [List.set]; try rfl) ?_
        refine q_is rfl rfl (does_move (u := (Iv ((k : Int) + 1))) (ev rfl)) (by dsimp only [List.set]; try rfl) ?_
        refine wpList_nil ?_
        have hN114 := NxI.cast (yss := ((fun (k : Nat) => nextTo A_m k) (k + 1))) hN65 (by (try dsimp only); exact nextTo_step hel1 (by omega))
        refine ⟨k + 1, ⟨fun t => (([(Pt m_b m_o), Ud, (.slice none 0 0), (.slice (some ⟨b13, 0, none⟩) A_m.places.length A_m.places.length), (Iv (k : Int)), (.slice p52 el1.length q53), (Iv (q : Int)), (Pt m_b m_o), (Pt m_b m_o), (Pt m_b m_o), (.slice p5 A_m.places.length q6), (Iv (A_m.places.length : Int)), (.slice (some ⟨b13, 0, none⟩) A_m.places.length A_m.places.length), (Pt m_b m_o), (Pt m_b m_o), (Pt m_b (m_o + 1)), (.slice p8 A_m.tris.length q9), (Iv (A_m.tris.length : Int)), (Iv ((k : Int) + 1)), (Bo (icmp .lss (k : Int) (A_m.tris.length : Int))), (Iv (k : Int)), (Pt m_b m_o), (Pt m_b m_o), (Pt m_b (m_o + 1)), (.slice p8 A_m.tris.length q9), (Iv (k : Int)), (Pt b46 o47), (.slice p52 el1.length q53), (Iv (q : Int)), (Bo (icmp .lss (q : Int) 3)), (u56 30), (u56 31), (u56 32), (u56 33), (u56 34), (u56 35), (u56 36), (u56 37), (u56 38), (u56 39), (u56 40), (u56 41), (u56 42), (u56 43), (u56 44), (u56 45), (u56 46), (u56 47), (u56 48), (u56 49), (u56 50), (u56 51), (u56 52), (Iv ((k : Int) + 1)), Ud] : List Value)[t]?).getD undef, ?_, (KpC.kl (KpC.mk K35 hL36) K61 (fun c hc => (hL62 c hc).imp (fun h => by simpa using h) id)), ⟨_, hR64, hN114⟩, ?_⟩, ?_⟩
        · first | rfl | (simp only [Int.natCast_add, Int.natCast_one]; rfl)
        · omega
        · omega
    have c42' := c42
    (try simp only [icmp, Bool.and_eq_true, Bool.or_eq_true, Bool.and_eq_false_iff, Bool.or_eq_false_iff, Bool.not_eq_true', Bool.not_eq_false', decide_eq_true_eq, decide_eq_false_iff_not, beq_iff_eq, bne_iff_ne, beq_eq_false_iff_ne, bne_eq_false_iff_eq] at c42')
    refine wp_exit ?_
    refine hK28 _ _ ?_
    refine wp_seq_k fun K115 hK115 => ?_
    refine wp_region_lit ?_
    refine q_is rfl rfl (does_move (u := (.slice (some ⟨b13, 0, none⟩) A_m.places.length A_m.places.length)) (ev rfl)) (by dsimp only [List.set]; try rfl) ?_
    refine q_is rfl rfl (does_assign (u := (.slice (some ⟨b13, 0, none⟩) A_m.places.length A_m.places.length)) (ev rfl)) (by dsimp only [List.set]; try rfl) ?_
    refine wpList_nil (hK115 _ _ ?_)
    refine wp_ret ?_
    refine ret_val (v := (.slice (some ⟨b13, 0, none⟩) A_m.places.length A_m.places.length)) (res_T rfl (slot rfl)) X37 ?_
    have x116 : (nextTo A_m k) = (nextL A_m) := by first | rfl | (rw [show k = A_m.tris.length by omega]; rfl)
    exact ⟨(.slice (some ⟨b13, 0, none⟩) A_m.places.length A_m.places.length), rfl, (Hang.castL (NxI.hang hN39 hR38 (by first | (simp only [nxQ_len, nextTo_len]; done) | first | assumption | omega | (simp only [nxQ_len, nextTo_len, List.length_set, List.length_replicate]; omega) | (simp only [nxQ_len, nextTo_len, List.length_set, List.length_replicate]; done)) g22 (Below.size (Ext.gr (Ext.refl _) E16)) (Nat.le_refl _) (by omega)) x116)⟩

end Go.Proofs.Ytlfpeihlfmdmdaa
