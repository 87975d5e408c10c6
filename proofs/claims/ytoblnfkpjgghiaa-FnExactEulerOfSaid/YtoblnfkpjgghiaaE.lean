/- contracts of functions, each walked once -/
import Derived.Test.YtoblnfkpjgghiaaU
import Derived.Test.YtoblnfkpjgghiaaU2
import Derived.Test.YtoblnfkpjgghiaaU3
import Derived.Test.YtoblnfkpjgghiaaEdj
import Derived.Test.YtoblnfkpjgghiaaRgj
import Derived.Test.YtoblnfkpjgghiaaKmp
import Derived.Test.YtoblnfkpjgghiaaEul
namespace Go.Proofs.Ytoblnfkpjgghiaa
open Go Go.RowKit
set_option maxRecDepth 100000
set_option maxHeartbeats 3200000
set_option linter.unusedVariables false
set_option linter.unusedSimpArgs false

/- spec.l07Times -/
theorem c_spec_l07Times (xs : Value) (L_xs : List Int) (x_ : Int) (w : World) (hv_xs : Sl RI 1 w xs L_xs) (hn : L_xs.length ≤ 1000000) : Gives Try.prog 40 #[xs, (Iv x_)] w (fun v w' => v = (Iv (L_xs.count x_ : Nat))) := by
  have hlen_xs := Sl.len hv_xs; obtain ⟨p_xs, q_xs, rfl⟩ := Sl.shape hv_xs
  refine enter [(.slice p_xs L_xs.length q_xs), (Iv x_), Ud, Ud, Ud, Ud, Ud, Ud, Ud, Ud, Ud, Ud, Ud, Ud, Ud, Ud, Ud, Ud, Ud, Ud, Ud, Ud] Try.func40 rfl Try.ntmps40 rfl ?_
  refine wp_seq_k fun K1 hK1 => ?_
  refine wp_region_lit ?_
  refine q_is (l' := [(.slice p_xs L_xs.length q_xs), (Iv x_), Ud, Ud, (Iv 0), Ud, Ud, Ud, Ud, Ud, Ud, Ud, Ud, Ud, Ud, Ud, Ud, Ud, Ud, Ud, Ud, Ud]) rfl rfl (does_assign (u := (Iv 0)) (ev rfl)) rfl ?_
  refine wpList_nil (hK1 _ _ ?_)
  refine wp_seq_k fun K2 hK2 => ?_
  refine wp_region_lit ?_
  refine q_is (l' := [(.slice p_xs L_xs.length q_xs), (Iv x_), Ud, Ud, (Iv 0), (Iv 0), Ud, Ud, Ud, Ud, Ud, Ud, Ud, Ud, Ud, Ud, Ud, Ud, Ud, Ud, Ud, Ud]) rfl rfl (does_assign (u := (Iv 0)) (ev rfl)) rfl ?_
  refine wpList_nil (hK2 _ _ ?_)
  refine wp_seq_k fun K3 hK3 => ?_
  refine wp_seq_k fun K4 hK4 => ?_
  refine wp_region_lit ?_
  refine q_is (l' := [(.slice p_xs L_xs.length q_xs), (Iv x_), Ud, Ud, (Iv 0), (Iv 0), Ud, (.slice p_xs L_xs.length q_xs), Ud, Ud, Ud, Ud, Ud, Ud, Ud, Ud, Ud, Ud, Ud, Ud, Ud, Ud]) rfl rfl (does_move (u := (.slice p_xs L_xs.length q_xs)) (ev rfl)) rfl ?_
  refine q_is (l' := [(.slice p_xs L_xs.length q_xs), (Iv x_), Ud, Ud, (Iv 0), (Iv 0), Ud, (.slice p_xs L_xs.length q_xs), (Iv (L_xs.length : Int)), Ud, Ud, Ud, Ud, Ud, Ud, Ud, Ud, Ud, Ud, Ud, Ud, Ud]) rfl rfl (does_len_slice Try.underlying27 (ev rfl)) rfl ?_
  refine q_is (l' := [(.slice p_xs L_xs.length q_xs), (Iv x_), Ud, Ud, (Iv 0), (Iv 0), Ud, (.slice p_xs L_xs.length q_xs), (Iv (L_xs.length : Int)), (Iv 0), Ud, Ud, Ud, Ud, Ud, Ud, Ud, Ud, Ud, Ud, Ud, Ud]) rfl rfl (does_move (u := (Iv 0)) (ev rfl)) rfl ?_
  refine wpList_nil (hK4 _ _ ?_)
  refine wp_block ?_
  refine loop_ghost (σ := Nat) (fun k a w' => ∃ u5 : Nat → Value, a = fr [(.slice p_xs L_xs.length q_xs), (Iv x_), Ud, Ud, (Iv 0), (Iv (((L_xs.take k).count x_ : Nat) : Int)), (u5 6), (.slice p_xs L_xs.length q_xs), (Iv (L_xs.length : Int)), (Iv (k : Int)), (u5 10), (u5 11), (u5 12), (u5 13), (u5 14), (u5 15), (u5 16), (u5 17), (u5 18), (u5 19), (u5 20), Ud] ∧ Ext w w' ∧ (k ≤ L_xs.length)) (fun k => L_xs.length - k) 0 ?_ ?_
  · refine ⟨fun t => (([(.slice p_xs L_xs.length q_xs), (Iv x_), Ud, Ud, (Iv 0), (Iv 0), Ud, (.slice p_xs L_xs.length q_xs), (Iv (L_xs.length : Int)), (Iv 0), Ud, Ud, Ud, Ud, Ud, Ud, Ud, Ud, Ud, Ud, Ud, Ud] : List Value)[t]?).getD undef, rfl, Ext.refl _, ?_⟩
    exact Nat.zero_le _
  · rintro k a w6 ⟨u5, rfl, E7, hk⟩
    have X9 := Ext.gr (Ext.refl w) E7
    have hcl := List.count_le_length (a := x_) (l := L_xs.take k)
    have hcl2 := List.length_take_le k L_xs
    refine wp_seq_k fun K10 hK10 => ?_
    refine wp_region_lit ?_
    refine q_is (l' := [(.slice p_xs L_xs.length q_xs), (Iv x_), Ud, Ud, (Iv 0), (Iv (((L_xs.take k).count x_ : Nat) : Int)), (u5 6), (.slice p_xs L_xs.length q_xs), (Iv (L_xs.length : Int)), (Iv (k : Int)), (Bo (icmp .lss (k : Int) (L_xs.length : Int))), (u5 11), (u5 12), (u5 13), (u5 14), (u5 15), (u5 16), (u5 17), (u5 18), (u5 19), (u5 20), Ud]) rfl rfl (does_icmp (p := (k : Int)) (q := (L_xs.length : Int)) (.inr (.inr (.inl rfl))) (ev rfl) (ev rfl)) rfl ?_
    refine wpList_nil (hK10 _ _ ?_)
    refine wp_seq_k fun K11 hK11 => ?_
    refine wp_cond_split (t := icmp .lss (k : Int) (L_xs.length : Int)) (ev rfl) (fun c12 => ?_) (fun c12 => ?_)
    · have c12' := c12
      (try simp only [icmp, Bool.and_eq_true, Bool.or_eq_true, Bool.and_eq_false_iff, Bool.or_eq_false_iff, Bool.not_eq_true', Bool.not_eq_false', decide_eq_true_eq, decide_eq_false_iff_not, beq_iff_eq, bne_iff_ne, beq_eq_false_iff_ne, bne_eq_false_iff_eq] at c12')
      refine wp_skip (hK11 _ _ ?_)
      refine wp_seq_k fun K13 hK13 => ?_
      refine wp_block ?_
      refine wp_seq_k fun K14 hK14 => ?_
      refine wp_region_lit ?_
      refine q_is (l' := [(.slice p_xs L_xs.length q_xs), (Iv x_), Ud, Ud, (Iv 0), (Iv (((L_xs.take k).count x_ : Nat) : Int)), (u5 6), (.slice p_xs L_xs.length q_xs), (Iv (L_xs.length : Int)), (Iv (k : Int)), (Bo (icmp .lss (k : Int) (L_xs.length : Int))), (Iv (k : Int)), (u5 12), (u5 13), (u5 14), (u5 15), (u5 16), (u5 17), (u5 18), (u5 19), (u5 20), Ud]) rfl rfl (does_move (u := (Iv (k : Int))) (ev rfl)) rfl ?_
      refine q_is (l' := [(.slice p_xs L_xs.length q_xs), (Iv x_), Ud, Ud, (Iv 0), (Iv (((L_xs.take k).count x_ : Nat) : Int)), (Iv (k : Int)), (.slice p_xs L_xs.length q_xs), (Iv (L_xs.length : Int)), (Iv (k : Int)), (Bo (icmp .lss (k : Int) (L_xs.length : Int))), (Iv (k : Int)), (u5 12), (u5 13), (u5 14), (u5 15), (u5 16), (u5 17), (u5 18), (u5 19), (u5 20), Ud]) rfl rfl (does_assign (u := (Iv (k : Int))) (ev rfl)) rfl ?_
      refine wpList_nil (hK14 _ _ ?_)
      refine wp_seq_k fun K15 hK15 => ?_
      refine wp_region_lit ?_
      refine q_is (l' := [(.slice p_xs L_xs.length q_xs), (Iv x_), Ud, Ud, (Iv 0), (Iv (((L_xs.take k).count x_ : Nat) : Int)), (Iv (k : Int)), (.slice p_xs L_xs.length q_xs), (Iv (L_xs.length : Int)), (Iv (k : Int)), (Bo (icmp .lss (k : Int) (L_xs.length : Int))), (Iv (k : Int)), (.slice p_xs L_xs.length q_xs), (u5 13), (u5 14), (u5 15), (u5 16), (u5 17), (u5 18), (u5 19), (u5 20), Ud]) rfl rfl (does_move (u := (.slice p_xs L_xs.length q_xs)) (ev rfl)) rfl ?_
      refine q_is (l' := [(.slice p_xs L_xs.length q_xs), (Iv x_), Ud, Ud, (Iv 0), (Iv (((L_xs.take k).count x_ : Nat) : Int)), (Iv (k : Int)), (.slice p_xs L_xs.length q_xs), (Iv (L_xs.length : Int)), (Iv (k : Int)), (Bo (icmp .lss (k : Int) (L_xs.length : Int))), (Iv (k : Int)), (.slice p_xs L_xs.length q_xs), (Iv (k : Int)), (u5 14), (u5 15), (u5 16), (u5 17), (u5 18), (u5 19), (u5 20), Ud]) rfl rfl (does_move (u := (Iv (k : Int))) (ev rfl)) rfl ?_
      obtain ⟨el1, hel1⟩ : ∃ e, L_xs[k]? = some e := ⟨_, List.getElem?_eq_getElem (by omega)⟩
      refine seqd rfl rfl (does_indexSl (R := RI) (i := (k : Int)) (xs := L_xs) (e := el1) Try.underlying27 Try.sizeOf2 (ev rfl) (ev rfl) (Sl.ext hv_xs RI.mono X9) (by omega) hel1) ?_; rintro _ w6 ⟨b16, o17, _, rfl, hc19, rfl, rfl⟩
      show wpList _ _ _ _ (fr [(.slice p_xs L_xs.length q_xs), (Iv x_), Ud, Ud, (Iv 0), (Iv (((L_xs.take k).count x_ : Nat) : Int)), (Iv (k : Int)), (.slice p_xs L_xs.length q_xs), (Iv (L_xs.length : Int)), (Iv (k : Int)), (Bo (icmp .lss (k : Int) (L_xs.length : Int))), (Iv (k : Int)), (.slice p_xs L_xs.length q_xs), (Iv (k : Int)), (Pt b16 o17), (u5 15), (u5 16), (u5 17), (u5 18), (u5 19), (u5 20), Ud]) _
      refine q_is (l' := [(.slice p_xs L_xs.length q_xs), (Iv x_), Ud, Ud, (Iv 0), (Iv (((L_xs.take k).count x_ : Nat) : Int)), (Iv (k : Int)), (.slice p_xs L_xs.length q_xs), (Iv (L_xs.length : Int)), (Iv (k : Int)), (Bo (icmp .lss (k : Int) (L_xs.length : Int))), (Iv (k : Int)), (.slice p_xs L_xs.length q_xs), (Iv (k : Int)), (Pt b16 o17), (Iv el1), (u5 16), (u5 17), (u5 18), (u5 19), (u5 20), Ud]) rfl rfl (does_load (u := (Iv el1)) (ev rfl) Try.isAgg2 (Cells.at hc19 0 rfl)) rfl ?_
      refine q_is (l' := [(.slice p_xs L_xs.length q_xs), (Iv x_), Ud, Ud, (Iv 0), (Iv (((L_xs.take k).count x_ : Nat) : Int)), (Iv (k : Int)), (.slice p_xs L_xs.length q_xs), (Iv (L_xs.length : Int)), (Iv (k : Int)), (Bo (icmp .lss (k : Int) (L_xs.length : Int))), (Iv (k : Int)), (.slice p_xs L_xs.length q_xs), (Iv (k : Int)), (Pt b16 o17), (Iv el1), (Iv x_), (u5 17), (u5 18), (u5 19), (u5 20), Ud]) rfl rfl (does_move (u := (Iv x_)) (ev rfl)) rfl ?_
      refine q_is (l' := [(.slice p_xs L_xs.length q_xs), (Iv x_), Ud, Ud, (Iv 0), (Iv (((L_xs.take k).count x_ : Nat) : Int)), (Iv (k : Int)), (.slice p_xs L_xs.length q_xs), (Iv (L_xs.length : Int)), (Iv (k : Int)), (Bo (icmp .lss (k : Int) (L_xs.length : Int))), (Iv (k : Int)), (.slice p_xs L_xs.length q_xs), (Iv (k : Int)), (Pt b16 o17), (Iv el1), (Iv x_), (Bo (icmp .eql el1 x_)), (u5 18), (u5 19), (u5 20), Ud]) rfl rfl (does_icmp (p := el1) (q := x_) (.inl rfl) (ev rfl) (ev rfl)) rfl ?_
      refine wpList_nil (hK15 _ _ ?_)
      refine wp_cond_split (t := icmp .eql el1 x_) (ev rfl) (fun c20 => ?_) (fun c20 => ?_)
      · have c20' := c20
        (try simp only [icmp, Bool.and_eq_true, Bool.or_eq_true, Bool.and_eq_false_iff, Bool.or_eq_false_iff, Bool.not_eq_true', Bool.not_eq_false', decide_eq_true_eq, decide_eq_false_iff_not, beq_iff_eq, bne_iff_ne, beq_eq_false_iff_ne, bne_eq_false_iff_eq] at c20')
        refine wp_region_lit ?_
        refine q_is (l' := [(.slice p_xs L_xs.length q_xs), (Iv x_), Ud, Ud, (Iv 0), (Iv (((L_xs.take k).count x_ : Nat) : Int)), (Iv (k : Int)), (.slice p_xs L_xs.length q_xs), (Iv (L_xs.length : Int)), (Iv (k : Int)), (Bo (icmp .lss (k : Int) (L_xs.length : Int))), (Iv (k : Int)), (.slice p_xs L_xs.length q_xs), (Iv (k : Int)), (Pt b16 o17), (Iv el1), (Iv x_), (Bo (icmp .eql el1 x_)), (Iv (((L_xs.take k).count x_ : Nat) : Int)), (u5 19), (u5 20), Ud]) rfl rfl (does_move (u := (Iv (((L_xs.take k).count x_ : Nat) : Int))) (ev rfl)) rfl ?_
        refine q_is (l' := [(.slice p_xs L_xs.length q_xs), (Iv x_), Ud, Ud, (Iv 0), (Iv (((L_xs.take k).count x_ : Nat) : Int)), (Iv (k : Int)), (.slice p_xs L_xs.length q_xs), (Iv (L_xs.length : Int)), (Iv (k : Int)), (Bo (icmp .lss (k : Int) (L_xs.length : Int))), (Iv (k : Int)), (.slice p_xs L_xs.length q_xs), (Iv (k : Int)), (Pt b16 o17), (Iv el1), (Iv x_), (Bo (icmp .eql el1 x_)), (Iv (((L_xs.take k).count x_ : Nat) : Int)), (Iv ((((L_xs.take k).count x_ : Nat) : Int) + 1)), (u5 20), Ud]) rfl rfl (does_iarith (p := (((L_xs.take k).count x_ : Nat) : Int)) (q := 1) (r := (((L_xs.take k).count x_ : Nat) : Int) + 1) (ev rfl) (ev rfl) (.inl ⟨rfl, (in_i64 (by omega) (by omega)).symm⟩)) rfl ?_
        refine q_is (l' := [(.slice p_xs L_xs.length q_xs), (Iv x_), Ud, Ud, (Iv 0), (Iv ((((L_xs.take k).count x_ : Nat) : Int) + 1)), (Iv (k : Int)), (.slice p_xs L_xs.length q_xs), (Iv (L_xs.length : Int)), (Iv (k : Int)), (Bo (icmp .lss (k : Int) (L_xs.length : Int))), (Iv (k : Int)), (.slice p_xs L_xs.length q_xs), (Iv (k : Int)), (Pt b16 o17), (Iv el1), (Iv x_), (Bo (icmp .eql el1 x_)), (Iv (((L_xs.take k).count x_ : Nat) : Int)), (Iv ((((L_xs.take k).count x_ : Nat) : Int) + 1)), (u5 20), Ud]) rfl rfl (does_assign (u := (Iv ((((L_xs.take k).count x_ : Nat) : Int) + 1))) (ev rfl)) rfl ?_
        refine wpList_nil (hK13 _ _ ?_)
        refine wp_region_lit ?_
        refine q_is (l' := [(.slice p_xs L_xs.length q_xs), (Iv x_), Ud, Ud, (Iv 0), (Iv ((((L_xs.take k).count x_ : Nat) : Int) + 1)), (Iv (k : Int)), (.slice p_xs L_xs.length q_xs), (Iv (L_xs.length : Int)), (Iv (k : Int)), (Bo (icmp .lss (k : Int) (L_xs.length : Int))), (Iv (k : Int)), (.slice p_xs L_xs.length q_xs), (Iv (k : Int)), (Pt b16 o17), (Iv el1), (Iv x_), (Bo (icmp .eql el1 x_)), (Iv (((L_xs.take k).count x_ : Nat) : Int)), (Iv ((((L_xs.take k).count x_ : Nat) : Int) + 1)), (Iv ((k : Int) + 1)), Ud]) rfl rfl (does_iarith (p := (k : Int)) (q := 1) (r := (k : Int) + 1) (ev rfl) (ev rfl) (.inl ⟨rfl, (in_i64 (by omega) (by omega)).symm⟩)) rfl ?_
        refine q_is (l' := [(.slice p_xs L_xs.length q_xs), (Iv x_), Ud, Ud, (Iv 0), (Iv ((((L_xs.take k).count x_ : Nat) : Int) + 1)), (Iv (k : Int)), (.slice p_xs L_xs.length q_xs), (Iv (L_xs.length : Int)), (Iv ((k : Int) + 1)), (Bo (icmp .lss (k : Int) (L_xs.length : Int))), (Iv (k : Int)), (.slice p_xs L_xs.length q_xs), (Iv (k : Int)), (Pt b16 o17), (Iv el1), (Iv x_), (Bo (icmp .eql el1 x_)), (Iv (((L_xs.take k).count x_ : Nat) : Int)), (Iv ((((L_xs.take k).count x_ : Nat) : Int) + 1)), (Iv ((k : Int) + 1)), Ud]) rfl rfl (does_move (u := (Iv ((k : Int) + 1))) (ev rfl)) rfl ?_
        refine wpList_nil ?_
        refine ⟨k + 1, ⟨fun t => (([(.slice p_xs L_xs.length q_xs), (Iv x_), Ud, Ud, (Iv 0), (Iv ((((L_xs.take k).count x_ : Nat) : Int) + 1)), (Iv (k : Int)), (.slice p_xs L_xs.length q_xs), (Iv (L_xs.length : Int)), (Iv ((k : Int) + 1)), (Bo (icmp .lss (k : Int) (L_xs.length : Int))), (Iv (k : Int)), (.slice p_xs L_xs.length q_xs), (Iv (k : Int)), (Pt b16 o17), (Iv el1), (Iv x_), (Bo (icmp .eql el1 x_)), (Iv (((L_xs.take k).count x_ : Nat) : Int)), (Iv ((((L_xs.take k).count x_ : Nat) : Int) + 1)), (Iv ((k : Int) + 1)), Ud] : List Value)[t]?).getD undef, ?_, E7, ?_⟩, ?_⟩
        · first | (rw [count_take hel1 (by assumption)]; simp only [Int.natCast_add, Int.natCast_one]; rfl) | (rw [count_take' hel1 (by assumption)]; simp only [Int.natCast_add, Int.natCast_one]; rfl)
        · omega
        · omega
      have c20' := c20
      (try simp only [icmp, Bool.and_eq_true, Bool.or_eq_true, Bool.and_eq_false_iff, Bool.or_eq_false_iff, Bool.not_eq_true', Bool.not_eq_false', decide_eq_true_eq, decide_eq_false_iff_not, beq_iff_eq, bne_iff_ne, beq_eq_false_iff_ne, bne_eq_false_iff_eq] at c20')
      refine wp_skip (hK13 _ _ ?_)
      refine wp_region_lit ?_
      refine q_is (l' := [(.slice p_xs L_xs.length q_xs), (Iv x_), Ud, Ud, (Iv 0), (Iv (((L_xs.take k).count x_ : Nat) : Int)), (Iv (k : Int)), (.slice p_xs L_xs.length q_xs), (Iv (L_xs.length : Int)), (Iv (k : Int)), (Bo (icmp .lss (k : Int) (L_xs.length : Int))), (Iv (k : Int)), (.slice p_xs L_xs.length q_xs), (Iv (k : Int)), (Pt b16 o17), (Iv el1), (Iv x_), (Bo (icmp .eql el1 x_)), (u5 18), (u5 19), (Iv ((k : Int) + 1)), Ud]) rfl rfl (does_iarith (p := (k : Int)) (q := 1) (r := (k : Int) + 1) (ev rfl) (ev rfl) (.inl ⟨rfl, (in_i64 (by omega) (by omega)).symm⟩)) rfl ?_
      refine q_is (l' := [(.slice p_xs L_xs.length q_xs), (Iv x_), Ud, Ud, (Iv 0), (Iv (((L_xs.take k).count x_ : Nat) : Int)), (Iv (k : Int)), (.slice p_xs L_xs.length q_xs), (Iv (L_xs.length : Int)), (Iv ((k : Int) + 1)), (Bo (icmp .lss (k : Int) (L_xs.length : Int))), (Iv (k : Int)), (.slice p_xs L_xs.length q_xs), (Iv (k : Int)), (Pt b16 o17), (Iv el1), (Iv x_), (Bo (icmp .eql el1 x_)), (u5 18), (u5 19), (Iv ((k : Int) + 1)), Ud]) rfl rfl (does_move (u := (Iv ((k : Int) + 1))) (ev rfl)) rfl ?_
      refine wpList_nil ?_
      refine ⟨k + 1, ⟨fun t => (([(.slice p_xs L_xs.length q_xs), (Iv x_), Ud, Ud, (Iv 0), (Iv (((L_xs.take k).count x_ : Nat) : Int)), (Iv (k : Int)), (.slice p_xs L_xs.length q_xs), (Iv (L_xs.length : Int)), (Iv ((k : Int) + 1)), (Bo (icmp .lss (k : Int) (L_xs.length : Int))), (Iv (k : Int)), (.slice p_xs L_xs.length q_xs), (Iv (k : Int)), (Pt b16 o17), (Iv el1), (Iv x_), (Bo (icmp .eql el1 x_)), (u5 18), (u5 19), (Iv ((k : Int) + 1)), Ud] : List Value)[t]?).getD undef, ?_, E7, ?_⟩, ?_⟩
      · first | (rw [count_take hel1 (by assumption)]; simp only [Int.natCast_add, Int.natCast_one]; rfl) | (rw [count_take' hel1 (by assumption)]; simp only [Int.natCast_add, Int.natCast_one]; rfl)
      · omega
      · omega
    have c12' := c12
    (try simp only [icmp, Bool.and_eq_true, Bool.or_eq_true, Bool.and_eq_false_iff, Bool.or_eq_false_iff, Bool.not_eq_true', Bool.not_eq_false', decide_eq_true_eq, decide_eq_false_iff_not, beq_iff_eq, bne_iff_ne, beq_eq_false_iff_ne, bne_eq_false_iff_eq] at c12')
    refine wp_exit ?_
    refine hK3 _ _ ?_
    refine wp_seq_k fun K21 hK21 => ?_
    refine wp_region_lit ?_
    refine q_is (l' := [(.slice p_xs L_xs.length q_xs), (Iv x_), Ud, Ud, (Iv 0), (Iv (((L_xs.take k).count x_ : Nat) : Int)), (u5 6), (.slice p_xs L_xs.length q_xs), (Iv (L_xs.length : Int)), (Iv (k : Int)), (Bo (icmp .lss (k : Int) (L_xs.length : Int))), (u5 11), (u5 12), (u5 13), (u5 14), (u5 15), (u5 16), (u5 17), (u5 18), (u5 19), (u5 20), (Iv (((L_xs.take k).count x_ : Nat) : Int))]) rfl rfl (does_move (u := (Iv (((L_xs.take k).count x_ : Nat) : Int))) (ev rfl)) rfl ?_
    refine q_is (l' := [(.slice p_xs L_xs.length q_xs), (Iv x_), Ud, Ud, (Iv (((L_xs.take k).count x_ : Nat) : Int)), (Iv (((L_xs.take k).count x_ : Nat) : Int)), (u5 6), (.slice p_xs L_xs.length q_xs), (Iv (L_xs.length : Int)), (Iv (k : Int)), (Bo (icmp .lss (k : Int) (L_xs.length : Int))), (u5 11), (u5 12), (u5 13), (u5 14), (u5 15), (u5 16), (u5 17), (u5 18), (u5 19), (u5 20), (Iv (((L_xs.take k).count x_ : Nat) : Int))]) rfl rfl (does_assign (u := (Iv (((L_xs.take k).count x_ : Nat) : Int))) (ev rfl)) rfl ?_
    refine wpList_nil (hK21 _ _ ?_)
    refine wp_ret ?_
    refine ret_val (v := (Iv (((L_xs.take k).count x_ : Nat) : Int))) (res_T rfl (slot rfl)) X9 ?_
    have x22 : ((L_xs.count x_ : Nat) : Int) = (((L_xs.take k).count x_ : Nat) : Int) := by first | rfl | (rw [List.take_of_length_le (show L_xs.length ≤ k by omega)])
    exact (by first | with_reducible rfl | rw [x22] | rfl)

/- spec.EulerOf -/
theorem c_spec_EulerOf (m : List Value) (A_m : MeshT) (w : World) (hv_m : RMeshT w A_m m) : Gives Try.prog 19 #[(.agg m.toArray)] w (fun v w' => v = (.tuple #[(Iv (eulN A_m)), (Bo (meshOk A_m))])) := by
  obtain ⟨y1, y3, rfl, h2, h4⟩ := hv_m
  have hs7 := h2; have hs7l := Sl.len h2; obtain ⟨p5, q6, rfl⟩ := Sl.shape h2
  have hs10 := h4; have hs10l := Sl.len h4; obtain ⟨p8, q9, rfl⟩ := Sl.shape h4
  refine enter [(.agg #[(.slice p5 A_m.places.length q6), (.slice p8 A_m.tris.length q9)]), Ud, Ud, Ud, Ud, Ud, Ud, Ud, Ud, Ud, Ud, Ud, Ud, Ud, Ud, Ud, Ud, Ud, Ud, Ud, Ud, Ud, Ud, Ud, Ud, Ud, Ud, Ud, Ud, Ud, Ud, Ud, Ud, Ud, Ud, Ud, Ud, Ud, Ud, Ud, Ud, Ud, Ud, Ud, Ud, Ud, Ud, Ud, Ud, Ud, Ud, Ud, Ud, Ud, Ud, Ud, Ud, Ud, Ud, Ud, Ud, Ud, Ud, Ud, Ud, Ud, Ud] Try.func19 rfl Try.ntmps19 rfl ?_
  refine wp_seq_k fun K11 hK11 => ?_
  refine wp_region_lit ?_
  refine seqd rfl rfl (does_box (u := (.agg #[(.slice p5 A_m.places.length q6), (.slice p8 A_m.tris.length q9)])) (ev rfl)) ?_; rintro _ w16 ⟨b12, rfl, hb13, hB14, E15⟩
  have g17 : w.heap.size ≤ b12 := Nat.le_trans (Below.size (Ext.refl w)) hb13
  change Blk _ _ [(.slice p5 A_m.places.length q6), (.slice p8 A_m.tris.length q9)] at hB14
  have X18 := Ext.gr (Ext.refl w) E15
  show wpList _ _ _ _ (fr [_, _, _, _, _, _, _, _, _, _, _, _, _, _, _, _, _, _, _, _, _, _, _, _, _, _, _, _, _, _, _, _, _, _, _, _, _, _, _, _, _, _, _, _, _, _, _, _, _, _, _, _, _, _, _, _, _, _, _, _, _, _, _, _, _, _, _]) _
  refine q_is rfl rfl (does_assign (u := (Iv 0)) (ev rfl)) (by dsimp only [List.set]; try rfl) ?_
  refine q_is rfl rfl (does_assign (u := (Bo false)) (ev rfl)) (by dsimp only [List.set]; try rfl) ?_
  refine wpList_nil (hK11 _ _ ?_)
  refine wp_seq_k fun K19 hK19 => ?_
  refine wp_seq_k fun K20 hK20 => ?_
  refine wp_region_lit ?_
  refine seqd rfl rfl (does_call (args := #[(Pt b12 0)]) cal25 (evs rfl) (c_spec_l07Is b12 0 [(.slice p5 A_m.places.length q6), (.slice p8 A_m.tris.length q9)] A_m _ (Blk.cells hB14) ⟨(.slice p5 A_m.places.length q6), (.slice p8 A_m.tris.length q9), rfl, (Sl.ext hs7 RV3.mono X18), (Sl.ext hs10 (RS.mono RI.mono) X18)⟩)) ?_; rintro _ w22 ⟨E21, rfl⟩
  have X23 := Ext.gr X18 E21
  show wpList _ _ _ _ (fr [_, _, _, _, _, _, _, _, _, _, _, _, _, _, _, _, _, _, _, _, _, _, _, _, _, _, _, _, _, _, _, _, _, _, _, _, _, _, _, _, _, _, _, _, _, _, _, _, _, _, _, _, _, _, _, _, _, _, _, _, _, _, _, _, _, _, _]) _
  refine q_is rfl rfl (does_not (ev rfl)) (by dsimp only [List.set]; try rfl) ?_
  refine wpList_nil (hK20 _ _ ?_)
  refine wp_cond_split (t := !(meshOk A_m)) (ev rfl) (fun c24 => ?_) (fun c24 => ?_)
  · rw [Bool.not_eq_true'] at c24
    have c24' := c24
    have hmf : meshOk A_m = false := c24
    refine wp_seq_k fun K25 hK25 => ?_
    refine wp_region_lit ?_
    refine q_is rfl rfl (does_assign (u := (Iv 0)) (ev rfl)) (by dsimp only [List.set]; try rfl) ?_
    refine q_is rfl rfl (does_assign (u := (Bo false)) (ev rfl)) (by dsimp only [List.set]; try rfl) ?_
    refine wpList_nil (hK25 _ _ ?_)
    refine wp_ret ?_
    dsimp only [Exit.then, Exit.inBlock]
    refine ret_val (v := (.tuple #[(Iv 0), (Bo false)])) (res_TT rfl (slot rfl) (slot rfl)) X23 ?_
    have x26 : (eulN A_m : Int) = 0 := by first | exact hmf | exact hmt | exact eulN_f hmf | (rw [eulN_t hmt, show A_m.places.length = k by omega])
    have x27 : (meshOk A_m) = false := by first | exact hmf | exact hmt | exact eulN_f hmf | (rw [eulN_t hmt, show A_m.places.length = k by omega])
    exact (by first | with_reducible rfl | rw [x26, x27] | rw [x27, x26] | rfl)
  rw [Bool.not_eq_false'] at c24
  have c24' := c24
  have hmt : meshOk A_m = true := c24
  have hml := mesh_len hmt
  refine wp_skip (hK19 _ _ ?_)
  refine wp_seq_k fun K28 hK28 => ?_
  refine wp_region_lit ?_
  refine seqd rfl rfl (does_call (args := #[(Pt b12 0)]) cal39 (evs rfl) (c_spec_l07Next b12 0 [(.slice p5 A_m.places.length q6), (.slice p8 A_m.tris.length q9)] A_m _ (Blk.cells (hB14.ext E21)) ⟨(.slice p5 A_m.places.length q6), (.slice p8 A_m.tris.length q9), rfl, (Sl.ext hs7 RV3.mono X23), (Sl.ext hs10 (RS.mono RI.mono) X23)⟩ (by exact hmt))) ?_; rintro _ w30 ⟨E29, ⟨y32, rfl, hh31⟩⟩
  have X33 := Ext.gr X23 E29
  have n34 : b12 < w22.heap.size := Blk.lt (hB14.ext E21)
  obtain ⟨p35, q36, rfl⟩ := Sl.shape hh31.get
  show wpList _ _ _ _ (fr [_, _, _, _, _, _, _, _, _, _, _, _, _, _, _, _, _, _, _, _, _, _, _, _, _, _, _, _, _, _, _, _, _, _, _, _, _, _, _, _, _, _, _, _, _, _, _, _, _, _, _, _, _, _, _, _, _, _, _, _, _, _, _, _, _, _, _]) _
  refine q_is rfl rfl (does_assign (u := (.slice p35 ((nextL A_m).length) q36)) (ev rfl)) (by dsimp only [List.set]; try rfl) ?_
  refine wpList_nil (hK28 _ _ ?_)
  refine wp_seq_k fun K37 hK37 => ?_
  refine wp_region_lit ?_
  refine q_is rfl rfl (does_assign (u := (Iv 0)) (ev rfl)) (by dsimp only [List.set]; try rfl) ?_
  refine wpList_nil (hK37 _ _ ?_)
  refine wp_seq_k fun K38 hK38 => ?_
  refine wp_seq_k fun K39 hK39 => ?_
  refine wp_region_lit ?_
  refine q_is rfl rfl (does_move (u := (.slice p35 ((nextL A_m).length) q36)) (ev rfl)) (by dsimp only [List.set]; try rfl) ?_
  refine q_is rfl rfl (does_len_slice Try.underlying23 (ev rfl)) (by dsimp only [List.set]; try rfl) ?_
  refine q_is rfl rfl (does_move (u := (Iv 0)) (ev rfl)) (by dsimp only [List.set]; try rfl) ?_
  refine wpList_nil (hK39 _ _ ?_)
  refine wp_block ?_
  refine loop_ghost (σ := Nat) (fun k a w' => ∃ u40 : Nat → Value, a = fr [(.agg #[(.slice p5 A_m.places.length q6), (.slice p8 A_m.tris.length q9)]), (Pt b12 0), (Iv 0), (Bo false), (.slice p35 ((nextL A_m).length) q36), (Iv ((eulTo (nextL A_m) k : Nat) : Int)), (u40 6), (u40 7), (u40 8), (Bo (meshOk A_m)), (Bo (!(meshOk A_m))), (.slice p35 ((nextL A_m).length) q36), (.slice p35 ((nextL A_m).length) q36), (Iv (((nextL A_m).length) : Int)), (Iv (k : Int)), (u40 15), (u40 16), (u40 17), (u40 18), (u40 19), (u40 20), (u40 21), (u40 22), (u40 23), (u40 24), (u40 25), (u40 26), (u40 27), (u40 28), (u40 29), (u40 30), (u40 31), (u40 32), (u40 33), (u40 34), (u40 35), (u40 36), (u40 37), (u40 38), (u40 39), (u40 40), (u40 41), (u40 42), (u40 43), (u40 44), (u40 45), (u40 46), (u40 47), (u40 48), (u40 49), (u40 50), (u40 51), (u40 52), (u40 53), (u40 54), (u40 55), (u40 56), (u40 57), (u40 58), Ud, Ud, Ud, Ud, Ud, Ud, Ud, Ud] ∧ Ext w30 w' ∧ (k ≤ (nextL A_m).length)) (fun k => (nextL A_m).length - k) 0 ?_ ?_
  · refine ⟨fun t => (([(.agg #[(.slice p5 A_m.places.length q6), (.slice p8 A_m.tris.length q9)]), (Pt b12 0), (Iv 0), (Bo false), (.slice p35 ((nextL A_m).length) q36), (Iv 0), Ud, Ud, Ud, (Bo (meshOk A_m)), (Bo (!(meshOk A_m))), (.slice p35 ((nextL A_m).length) q36), (.slice p35 ((nextL A_m).length) q36), (Iv (((nextL A_m).length) : Int)), (Iv 0), Ud, Ud, Ud, Ud, Ud, Ud, Ud, Ud, Ud, Ud, Ud, Ud, Ud, Ud, Ud, Ud, Ud, Ud, Ud, Ud, Ud, Ud, Ud, Ud, Ud, Ud, Ud, Ud, Ud, Ud, Ud, Ud, Ud, Ud, Ud, Ud, Ud, Ud, Ud, Ud, Ud, Ud, Ud, Ud, Ud, Ud, Ud, Ud, Ud, Ud, Ud, Ud] : List Value)[t]?).getD undef, rfl, Ext.refl _, ?_⟩
    exact Nat.zero_le _
  · rintro k a w41 ⟨u40, rfl, E42, hk⟩
    have X44 := Ext.gr X33 E42
    have hnl := nextL_len A_m
    have hot := eulTo_le hmt k hk
    refine wp_seq_k fun K45 hK45 => ?_
    refine wp_region_lit ?_
    refine q_is rfl rfl (does_icmp (p := (k : Int)) (q := (((nextL A_m).length) : Int)) (.inr (.inr (.inl rfl))) (ev rfl) (ev rfl)) (by dsimp only [List.set]; try rfl) ?_
    refine wpList_nil (hK45 _ _ ?_)
    refine wp_seq_k fun K46 hK46 => ?_
    refine wp_cond_split (t := icmp .lss (k : Int) (((nextL A_m).length) : Int)) (ev rfl) (fun c47 => ?_) (fun c47 => ?_)
    · have c47' := c47
      (try simp only [icmp, Bool.and_eq_true, Bool.or_eq_true, Bool.and_eq_false_iff, Bool.or_eq_false_iff, Bool.not_eq_true', Bool.not_eq_false', decide_eq_true_eq, decide_eq_false_iff_not, beq_iff_eq, bne_iff_ne, beq_eq_false_iff_ne, bne_eq_false_iff_eq] at c47')
      refine wp_skip (hK46 _ _ ?_)
      refine wp_seq_k fun K48 hK48 => ?_
      refine wp_block ?_
      refine wp_seq_k fun K49 hK49 => ?_
      refine wp_region_lit ?_
      refine q_is rfl rfl (does_move (u := (Iv (k : Int))) (ev rfl)) (by dsimp only [List.set]; try rfl) ?_
      refine q_is rfl rfl (does_assign (u := (Iv (k : Int))) (ev rfl)) (by dsimp only [List.set]; try rfl) ?_
      refine wpList_nil (hK49 _ _ ?_)
      refine wp_seq_k fun K50 hK50 => ?_
      refine wp_region_lit ?_
      refine q_is rfl rfl (does_move (u := (.slice p35 ((nextL A_m).length) q36)) (ev rfl)) (by dsimp only [List.set]; try rfl) ?_
      refine q_is rfl rfl (does_move (u := (Iv (k : Int))) (ev rfl)) (by dsimp only [List.set]; try rfl) ?_
      obtain ⟨el1, hel1⟩ : ∃ e, (nextL A_m)[k]? = some e := ⟨_, List.getElem?_eq_getElem (by omega)⟩
      refine seqd rfl rfl (does_indexSl (R := (RS RI 1)) (i := (k : Int)) (xs := (nextL A_m)) (e := el1) Try.underlying23 Try.sizeOf27 (ev rfl) (ev rfl) (hh31 _ ((Same.refl _ _).ext E42)) (by omega) hel1) ?_; rintro _ w41 ⟨b51, o52, _, rfl, hc54, ⟨y55, rfl, h56⟩, rfl⟩
      have hs59 := h56; have hs59l := Sl.len h56; obtain ⟨p57, q58, rfl⟩ := Sl.shape h56
      show wpList _ _ _ _ (fr [_, _, _, _, _, _, _, _, _, _, _, _, _, _, _, _, _, _, _, _, _, _, _, _, _, _, _, _, _, _, _, _, _, _, _, _, _, _, _, _, _, _, _, _, _, _, _, _, _, _, _, _, _, _, _, _, _, _, _, _, _, _, _, _, _, _, _]) _
      refine q_is rfl rfl (does_load (u := (.slice p57 el1.length q58)) (ev rfl) Try.isAgg27 (Cells.at hc54 0 rfl)) (by dsimp only [List.set]; try rfl) ?_
      refine q_is rfl rfl (does_len_slice Try.underlying27 (ev rfl)) (by dsimp only [List.set]; try rfl) ?_
      have hl1 := nextL_most hmt hel1
      refine q_is rfl rfl (does_move (u := (Iv 0)) (ev rfl)) (by dsimp only [List.set]; try rfl) ?_
      refine wpList_nil (hK50 _ _ ?_)
      refine wp_block ?_
      refine loop_ghost (σ := Nat) (fun q a w' => ∃ u60 : Nat → Value, a = fr [(.agg #[(.slice p5 A_m.places.length q6), (.slice p8 A_m.tris.length q9)]), (Pt b12 0), (Iv 0), (Bo false), (.slice p35 ((nextL A_m).length) q36), (Iv ((eulTo (nextL A_m) k + eulQ (nextL A_m) k q : Nat) : Int)), (Iv (k : Int)), (u60 7), (u60 8), (Bo (meshOk A_m)), (Bo (!(meshOk A_m))), (.slice p35 ((nextL A_m).length) q36), (.slice p35 ((nextL A_m).length) q36), (Iv (((nextL A_m).length) : Int)), (Iv (k : Int)), (Bo (icmp .lss (k : Int) (((nextL A_m).length) : Int))), (Iv (k : Int)), (.slice p35 ((nextL A_m).length) q36), (Iv (k : Int)), (Pt b51 o52), (.slice p57 el1.length q58), (Iv (el1.length : Int)), (Iv (q : Int)), (u60 23), (u60 24), (u60 25), (u60 26), (u60 27), (u60 28), (u60 29), (u60 30), (u60 31), (u60 32), (u60 33), (u60 34), (u60 35), (u60 36), (u60 37), (u60 38), (u60 39), (u60 40), (u60 41), (u60 42), (u60 43), (u60 44), (u60 45), (u60 46), (u60 47), (u60 48), (u60 49), (u60 50), (u60 51), (u60 52), (u60 53), (u60 54), (u60 55), (u60 56), (u60 57), (u40 58), Ud, Ud, Ud, Ud, Ud, Ud, Ud, Ud] ∧ Ext w41 w' ∧ (q ≤ el1.length)) (fun q => el1.length - q) 0 ?_ ?_
      · refine ⟨fun t => (([(.agg #[(.slice p5 A_m.places.length q6), (.slice p8 A_m.tris.length q9)]), (Pt b12 0), (Iv 0), (Bo false), (.slice p35 ((nextL A_m).length) q36), (Iv ((eulTo (nextL A_m) k : Nat) : Int)), (Iv (k : Int)), (u40 7), (u40 8), (Bo (meshOk A_m)), (Bo (!(meshOk A_m))), (.slice p35 ((nextL A_m).length) q36), (.slice p35 ((nextL A_m).length) q36), (Iv (((nextL A_m).length) : Int)), (Iv (k : Int)), (Bo (icmp .lss (k : Int) (((nextL A_m).length) : Int))), (Iv (k : Int)), (.slice p35 ((nextL A_m).length) q36), (Iv (k : Int)), (Pt b51 o52), (.slice p57 el1.length q58), (Iv (el1.length : Int)), (Iv 0), (u40 23), (u40 24), (u40 25), (u40 26), (u40 27), (u40 28), (u40 29), (u40 30), (u40 31), (u40 32), (u40 33), (u40 34), (u40 35), (u40 36), (u40 37), (u40 38), (u40 39), (u40 40), (u40 41), (u40 42), (u40 43), (u40 44), (u40 45), (u40 46), (u40 47), (u40 48), (u40 49), (u40 50), (u40 51), (u40 52), (u40 53), (u40 54), (u40 55), (u40 56), (u40 57), (u40 58), Ud, Ud, Ud, Ud, Ud, Ud, Ud, Ud] : List Value)[t]?).getD undef, rfl, Ext.refl _, ?_⟩
        exact Nat.zero_le _
      · rintro q a w61 ⟨u60, rfl, E62, hq⟩
        have X64 := Ext.gr X44 E62
        have hoq := eulQ_le (nextL A_m) k q
        refine wp_seq_k fun K65 hK65 => ?_
        refine wp_region_lit ?_
        refine q_is rfl rfl (does_icmp (p := (q : Int)) (q := (el1.length : Int)) (.inr (.inr (.inl rfl))) (ev rfl) (ev rfl)) (by dsimp only [List.set]; try rfl) ?_
        refine wpList_nil (hK65 _ _ ?_)
        refine wp_seq_k fun K66 hK66 => ?_
        refine wp_cond_split (t := icmp .lss (q : Int) (el1.length : Int)) (ev rfl) (fun c67 => ?_) (fun c67 => ?_)
        · have c67' := c67
          (try simp only [icmp, Bool.and_eq_true, Bool.or_eq_true, Bool.and_eq_false_iff, Bool.or_eq_false_iff, Bool.not_eq_true', Bool.not_eq_false', decide_eq_true_eq, decide_eq_false_iff_not, beq_iff_eq, bne_iff_ne, beq_eq_false_iff_ne, bne_eq_false_iff_eq] at c67')
          refine wp_skip (hK66 _ _ ?_)
          refine wp_seq_k fun K68 hK68 => ?_
          refine wp_block ?_
          refine wp_seq_k fun K69 hK69 => ?_
          refine wp_region_lit ?_
          refine q_is rfl rfl (does_move (u := (Iv (q : Int))) (ev rfl)) (by dsimp only [List.set]; try rfl) ?_
          refine q_is rfl rfl (does_assign (u := (Iv (q : Int))) (ev rfl)) (by dsimp only [List.set]; try rfl) ?_
          refine wpList_nil (hK69 _ _ ?_)
          refine wp_seq_k fun K70 hK70 => ?_
          refine wp_region_lit ?_
          refine q_is rfl rfl (does_move (u := (.slice p35 ((nextL A_m).length) q36)) (ev rfl)) (by dsimp only [List.set]; try rfl) ?_
          refine q_is rfl rfl (does_move (u := (Iv (k : Int))) (ev rfl)) (by dsimp only [List.set]; try rfl) ?_
          refine seqd rfl rfl (does_indexSl (R := (RS RI 1)) (i := (k : Int)) (xs := (nextL A_m)) (e := el1) Try.underlying23 Try.sizeOf27 (ev rfl) (ev rfl) (hh31 _ (((Same.refl _ _).ext E42).ext E62)) (by omega) hel1) ?_; rintro _ w61 ⟨b71, o72, _, rfl, hc74, ⟨y75, rfl, h76⟩, rfl⟩
          have hs79 := h76; have hs79l := Sl.len h76; obtain ⟨p77, q78, rfl⟩ := Sl.shape h76
          show wpList _ _ _ _ (fr [_, _, _, _, _, _, _, _, _, _, _, _, _, _, _, _, _, _, _, _, _, _, _, _, _, _, _, _, _, _, _, _, _, _, _, _, _, _, _, _, _, _, _, _, _, _, _, _, _, _, _, _, _, _, _, _, _, _, _, _, _, _, _, _, _, _, _]) _
          refine q_is rfl rfl (does_load (u := (.slice p77 el1.length q78)) (ev rfl) Try.isAgg27 (Cells.at hc74 0 rfl)) (by dsimp only [List.set]; try rfl) ?_
          refine q_is rfl rfl (does_move (u := (Iv (q : Int))) (ev rfl)) (by dsimp only [List.set]; try rfl) ?_
          obtain ⟨el2, hel2⟩ : ∃ e, el1[q]? = some e := ⟨_, List.getElem?_eq_getElem (by omega)⟩
          refine seqd rfl rfl (does_indexSl (R := RI) (i := (q : Int)) (xs := el1) (e := el2) Try.underlying27 Try.sizeOf2 (ev rfl) (ev rfl) hs79 (by omega) hel2) ?_; rintro _ w61 ⟨b80, o81, _, rfl, hc83, rfl, rfl⟩
          show wpList _ _ _ _ (fr [_, _, _, _, _, _, _, _, _, _, _, _, _, _, _, _, _, _, _, _, _, _, _, _, _, _, _, _, _, _, _, _, _, _, _, _, _, _, _, _, _, _, _, _, _, _, _, _, _, _, _, _, _, _, _, _, _, _, _, _, _, _, _, _, _, _, _]) _
          refine q_is rfl rfl (does_load (u := (Iv el2)) (ev rfl) Try.isAgg2 (Cells.at hc83 0 rfl)) (by dsimp only [List.set]; try rfl) ?_
          refine q_is rfl rfl (does_assign (u := (Iv el2)) (ev rfl)) (by dsimp only [List.set]; try rfl) ?_
          refine wpList_nil (hK70 _ _ ?_)
          refine wp_seq_k fun K84 hK84 => ?_
          have hb2 := nextL_in hmt hel1 hel2
          obtain ⟨β1, hβ1⟩ : ∃ b : Bool, b = (icmp .eql ((el1.take (q : Int).toNat).count el2 : Nat) 0) := ⟨_, rfl⟩
          obtain ⟨el3, hel3⟩ : ∃ e, (nextL A_m)[el2.toNat]? = some e := ⟨_, List.getElem?_eq_getElem (by omega)⟩
          have hl3 := nextL_most hmt hel3
          obtain ⟨β2, hβ2⟩ : ∃ b : Bool, b = (icmp .eql (el3.count (k : Int) : Nat) 0) := ⟨_, rfl⟩
          obtain ⟨β3, hβ3⟩ : ∃ b : Bool, b = ((icmp .lss (k : Int) el2) || β2) := ⟨_, rfl⟩
          refine region_text (
            [Fact.pure [] (fun v => v = (.slice p35 ((nextL A_m).length) q36)),
    Fact.pure [] (fun v => v = (Iv (k : Int))),
    Fact.mem [32, 33] (fun v w' => PtrR (RS RI 1) w' v el1) (by intro v w1 w2 hx h; exact h.ext (RS.mono RI.mono) hx),
    Fact.mem [34] (fun v w' => ∃ y_1 : Value, v = y_1 ∧ Sl RI 1 w' y_1 el1) (by rintro v w1 w2 hx ⟨z1, rfl, k0⟩; exact ⟨_, rfl, (k0.ext RI.mono hx)⟩),
    Fact.pure [] (fun v => v = (Iv (q : Int))),
    Fact.mem [35, 36] (fun v w' => ∃ y_1 : Value, v = y_1 ∧ Sl RI 1 w' y_1 (el1.take (q : Int).toNat)) (by rintro v w1 w2 hx ⟨z1, rfl, k0⟩; exact ⟨_, rfl, (k0.ext RI.mono hx)⟩),
    Fact.pure [] (fun v => v = (Iv el2)),
    Fact.pure [37, 38] (fun v => v = (Iv ((el1.take (q : Int).toNat).count el2 : Nat))),
    Fact.pure [39] (fun v => v = (Bo β1)),
    Fact.pure [40] (fun v => v = (Bo β1)),
    Fact.pure [41] (fun v => β1 = true → v = (Iv (k : Int))),
    Fact.pure [41] (fun v => β1 = true → v = (Iv el2)),
    Fact.pure [42, 43, 41] (fun v => β1 = true → v = (Bo (icmp .lss (k : Int) el2))),
    Fact.pure [44, 41] (fun v => (β1 = true → v = (Bo (icmp .lss (k : Int) el2))) ∧ (¬ (β1 = true) → v = undef)),
    Fact.pure [45] (fun v => β1 = true → (icmp .lss (k : Int) el2) = false → v = (.slice p35 ((nextL A_m).length) q36)),
    Fact.pure [45] (fun v => β1 = true → (icmp .lss (k : Int) el2) = false → v = (Iv el2)),
    Fact.mem [46, 47, 45] (fun v w' => β1 = true → (icmp .lss (k : Int) el2) = false → PtrR (RS RI 1) w' v el3) (by intro v w1 w2 hx h; exact fun hg1 hg2 => (h hg1 hg2).ext (RS.mono RI.mono) hx),
    Fact.mem [48, 45] (fun v w' => β1 = true → (icmp .lss (k : Int) el2) = false → ∃ y_1 : Value, v = y_1 ∧ Sl RI 1 w' y_1 el3) (by intro v w1 w2 hx h hg1 hg2; obtain ⟨z1, rfl, k0⟩ := h hg1 hg2; exact ⟨_, rfl, (k0.ext RI.mono hx)⟩),
    Fact.pure [45] (fun v => β1 = true → (icmp .lss (k : Int) el2) = false → v = (Iv (k : Int))),
    Fact.pure [49, 50, 45] (fun v => β1 = true → (icmp .lss (k : Int) el2) = false → v = (Iv (el3.count (k : Int) : Nat))),
    Fact.pure [51, 45] (fun v => β1 = true → (icmp .lss (k : Int) el2) = false → v = (Bo β2)),
    Fact.pure [45, 52, 41] (fun v => β1 = true → v = (Bo β3)),
    Fact.pure [41, 53] (fun v => v = (Bo (β1 && β3)))]) (by simp [Fact.pure, Fact.mem]) ?_
          refine RW_d _ rfl (fun v => by dsimp only [List.set]; try rfl) (fun u hu hF => ?_) (fun v85 => ?_)
          · clear hF
            refine doesG_un rfl ?_
            refine (does_move (u := (.slice p35 ((nextL A_m).length) q36)) (ev rfl)).mono ?_; rintro _ _ ⟨rfl, rfl⟩
            exact ⟨rfl, Ext.refl _⟩
          refine RW_d _ rfl (fun v => by dsimp only [List.set]; try rfl) (fun u hu hF => ?_) (fun v86 => ?_)
          · clear hF
            refine doesG_un rfl ?_
            refine (does_move (u := (Iv (k : Int))) (ev rfl)).mono ?_; rintro _ _ ⟨rfl, rfl⟩
            exact ⟨rfl, Ext.refl _⟩
          refine RW_d _ rfl (fun v => by dsimp only [List.set]; try rfl) (fun u hu hF => ?_) (fun v87 => ?_)
          · have h32_ : v85 = (.slice p35 ((nextL A_m).length) q36) := hF.1
            have h33_ : v86 = (Iv (k : Int)) := hF.2.1
            clear hF
            refine doesG_un rfl ?_
            obtain rfl := h32_
            obtain rfl := h33_
            refine (does_indexSl (R := (RS RI 1)) (i := (k : Int)) (xs := (nextL A_m)) (e := el1) Try.underlying23 Try.sizeOf27 (ev rfl) (ev rfl) (Sl.ext (hh31 _ (((Same.refl _ _).ext E42).ext E62)) (RS.mono RI.mono) hu) (by omega) hel1).mono ?_; rintro v u' ⟨b, of, cs, hv, hc, hR, hu'⟩; subst hu'
            exact ⟨⟨b, of, cs, hv, hc, hR⟩, Ext.refl _⟩
          refine RW_d _ rfl (fun v => by dsimp only [List.set]; try rfl) (fun u hu hF => ?_) (fun v88 => ?_)
          · have h34_ : PtrR (RS RI 1) u v87 el1 := hF.1
            clear hF
            refine doesG_un rfl ?_
            obtain ⟨b34_, o34_, _, rfl, hc34_, ⟨y34_1, rfl, h34_2⟩⟩ := h34_
            have hh34_2 := h34_2; obtain ⟨p34_3, q34_4, rfl⟩ := Sl.shape h34_2
            refine (does_load (u := (.slice p34_3 el1.length q34_4)) (ev rfl) Try.isAgg27 (Cells.at hc34_ 0 rfl)).mono ?_; rintro _ _ ⟨rfl, rfl⟩
            exact ⟨⟨(.slice p34_3 el1.length q34_4), rfl, (by assumption)⟩, Ext.refl _⟩
          refine RW_d _ rfl (fun v => by dsimp only [List.set]; try rfl) (fun u hu hF => ?_) (fun v89 => ?_)
          · clear hF
            refine doesG_un rfl ?_
            refine (does_move (u := (Iv (q : Int))) (ev rfl)).mono ?_; rintro _ _ ⟨rfl, rfl⟩
            exact ⟨rfl, Ext.refl _⟩
          refine RW_d _ rfl (fun v => by dsimp only [List.set]; try rfl) (fun u hu hF => ?_) (fun v90 => ?_)
          · have h35_ : ∃ y_1 : Value, v88 = y_1 ∧ Sl RI 1 u y_1 el1 := hF.1
            have h36_ : v89 = (Iv (q : Int)) := hF.2.1
            clear hF
            refine doesG_un rfl ?_
            obtain ⟨y35_1, rfl, h35_2⟩ := h35_
            have hh35_2 := h35_2; obtain ⟨p35_3, q35_4, rfl⟩ := Sl.shape h35_2
            obtain rfl := h36_
            refine (does_sliceTo (R := RI) (k := 1) (xs := el1) (h := (q : Int)) Try.underlying27 Try.sizeOf2 (ev rfl) (ev rfl) hh35_2 (by omega) (by first | omega | omega)).mono ?_; rintro v u' ⟨hx, ⟨yn1, hv, k0⟩⟩
            exact ⟨⟨yn1, hv, k0⟩, hx⟩
          refine RW_d _ rfl (fun v => by dsimp only [List.set]; try rfl) (fun u hu hF => ?_) (fun v91 => ?_)
          · clear hF
            refine doesG_un rfl ?_
            refine (does_move (u := (Iv el2)) (ev rfl)).mono ?_; rintro _ _ ⟨rfl, rfl⟩
            exact ⟨rfl, Ext.refl _⟩
          refine RW_d _ rfl (fun v => by dsimp only [List.set]; try rfl) (fun u hu hF => ?_) (fun v92 => ?_)
          · have h37_ : ∃ y_1 : Value, v90 = y_1 ∧ Sl RI 1 u y_1 (el1.take (q : Int).toNat) := hF.1
            have h38_ : v91 = (Iv el2) := hF.2.1
            clear hF
            refine doesG_un rfl ?_
            obtain ⟨y37_1, rfl, h37_2⟩ := h37_
            have hh37_2 := h37_2; obtain ⟨p37_3, q37_4, rfl⟩ := Sl.shape h37_2
            obtain rfl := h38_
            refine (does_call (args := #[(.slice p37_3 ((el1.take (q : Int).toNat).length) q37_4), (Iv el2)]) cal40 (evs rfl) (c_spec_l07Times (.slice p37_3 ((el1.take (q : Int).toNat).length) q37_4) (el1.take (q : Int).toNat) el2 _ hh37_2 (by (rw [List.length_take]; omega)))).mono ?_; rintro v u' ⟨hx, hv⟩
            exact ⟨hv, hx⟩
          refine RW_d _ rfl (fun v => by dsimp only [List.set]; try rfl) (fun u hu hF => ?_) (fun v93 => ?_)
          · have h39_ : v92 = (Iv ((el1.take (q : Int).toNat).count el2 : Nat)) := hF.1
            clear hF
            refine doesG_un rfl ?_
            obtain rfl := h39_
            refine (does_icmp (p := ((el1.take (q : Int).toNat).count el2 : Nat)) (q := 0) (.inl rfl) (ev rfl) (ev rfl)).mono ?_; rintro _ _ ⟨rfl, rfl⟩
            exact ⟨(by first | rfl | (show _ = _; simp only [hβ1]; done) | (show _ = _; simp only [hβ1]; rfl)), Ext.refl _⟩
          refine RW_d _ rfl (fun v => by dsimp only [List.set]; try rfl) (fun u hu hF => ?_) (fun v94 => ?_)
          · have h40_ : v93 = (Bo β1) := hF.1
            clear hF
            refine doesG_un rfl ?_
            obtain rfl := h40_
            refine (does_move (u := (Bo β1)) (ev rfl)).mono ?_; rintro _ _ ⟨rfl, rfl⟩
            exact ⟨rfl, Ext.refl _⟩
          refine RW_d _ rfl (fun v => by dsimp only [List.set]; try rfl) (fun u hu hF => ?_) (fun v95 => ?_)
          · have h41_ : v94 = (Bo β1) := hF.1
            clear hF
            obtain rfl := h41_
            refine doesG_g (b := β1) rfl (yld rfl rfl) (fun hg1 => ?_) (fun hc => ⟨fun hg1 => absurd hg1 hc, Ext.refl _⟩)
            refine (does_move (u := (Iv (k : Int))) (ev rfl)).mono ?_; rintro _ _ ⟨rfl, rfl⟩
            exact ⟨fun _ => rfl, Ext.refl _⟩
          refine RW_d _ rfl (fun v => by dsimp only [List.set]; try rfl) (fun u hu hF => ?_) (fun v96 => ?_)
          · have h41_ : v94 = (Bo β1) := hF.1
            clear hF
            obtain rfl := h41_
            refine doesG_g (b := β1) rfl (yld rfl rfl) (fun hg1 => ?_) (fun hc => ⟨fun hg1 => absurd hg1 hc, Ext.refl _⟩)
            refine (does_move (u := (Iv el2)) (ev rfl)).mono ?_; rintro _ _ ⟨rfl, rfl⟩
            exact ⟨fun _ => rfl, Ext.refl _⟩
          refine RW_d _ rfl (fun v => by dsimp only [List.set]; try rfl) (fun u hu hF => ?_) (fun v97 => ?_)
          · have h42_ : β1 = true → v95 = (Iv (k : Int)) := hF.1
            have h43_ : β1 = true → v96 = (Iv el2) := hF.2.1
            have h41_ : v94 = (Bo β1) := hF.2.2.1
            clear hF
            obtain rfl := h41_
            refine doesG_g (b := β1) rfl (yld rfl rfl) (fun hg1 => ?_) (fun hc => ⟨fun hg1 => absurd hg1 hc, Ext.refl _⟩)
            obtain rfl := h42_ hg1
            obtain rfl := h43_ hg1
            refine (does_icmp (p := (k : Int)) (q := el2) (.inr (.inr (.inl rfl))) (ev rfl) (ev rfl)).mono ?_; rintro _ _ ⟨rfl, rfl⟩
            exact ⟨fun _ => rfl, Ext.refl _⟩
          refine RW_d _ rfl (fun v => by dsimp only [List.set]; try rfl) (fun u hu hF => ?_) (fun v98 => ?_)
          · have h44_ : β1 = true → v97 = (Bo (icmp .lss (k : Int) el2)) := hF.1
            have h41_ : v94 = (Bo β1) := hF.2.1
            clear hF
            obtain rfl := h41_
            refine doesG_g (b := β1) rfl (yld rfl rfl) (fun hg1 => ?_) (fun hc => ⟨⟨fun hg1 => absurd hg1 hc, fun _ => rfl⟩, Ext.refl _⟩)
            obtain rfl := h44_ hg1
            refine (does_move (u := (Bo (icmp .lss (k : Int) el2))) (ev rfl)).mono ?_; rintro _ _ ⟨rfl, rfl⟩
            exact ⟨⟨fun _ => rfl, fun hn => absurd hg1 hn⟩, Ext.refl _⟩
          refine RW_d _ rfl (fun v => by dsimp only [List.set]; try rfl) (fun u hu hF => ?_) (fun v99 => ?_)
          · have h45_ : (β1 = true → v98 = (Bo (icmp .lss (k : Int) el2))) ∧ (¬ (β1 = true) → v98 = undef) := hF.1; have h45u := h45_.2; replace h45_ := h45_.1
            clear hF
            refine doesG_gg (b := (icmp .lss (k : Int) el2)) (c := β1 = true) rfl (fun hc => ?_) (fun hc => ?_) (fun hc hg2 => ?_) (fun hc => ⟨fun hg1 hg2 => absurd ⟨hg1, hg2⟩ hc, Ext.refl _⟩)
            · have hg1 := hc; obtain rfl := h45_ hg1; exact yld rfl rfl
            · obtain rfl := h45u hc; exact yldn rfl rfl
            have hg1 := hc
            obtain rfl := h45_ hg1
            refine (does_move (u := (.slice p35 ((nextL A_m).length) q36)) (ev rfl)).mono ?_; rintro _ _ ⟨rfl, rfl⟩
            exact ⟨fun _ _ => rfl, Ext.refl _⟩
          refine RW_d _ rfl (fun v => by dsimp only [List.set]; try rfl) (fun u hu hF => ?_) (fun v100 => ?_)
          · have h45_ : (β1 = true → v98 = (Bo (icmp .lss (k : Int) el2))) ∧ (¬ (β1 = true) → v98 = undef) := hF.1; have h45u := h45_.2; replace h45_ := h45_.1
            clear hF
            refine doesG_gg (b := (icmp .lss (k : Int) el2)) (c := β1 = true) rfl (fun hc => ?_) (fun hc => ?_) (fun hc hg2 => ?_) (fun hc => ⟨fun hg1 hg2 => absurd ⟨hg1, hg2⟩ hc, Ext.refl _⟩)
            · have hg1 := hc; obtain rfl := h45_ hg1; exact yld rfl rfl
            · obtain rfl := h45u hc; exact yldn rfl rfl
            have hg1 := hc
            obtain rfl := h45_ hg1
            refine (does_move (u := (Iv el2)) (ev rfl)).mono ?_; rintro _ _ ⟨rfl, rfl⟩
            exact ⟨fun _ _ => rfl, Ext.refl _⟩
          refine RW_d _ rfl (fun v => by dsimp only [List.set]; try rfl) (fun u hu hF => ?_) (fun v101 => ?_)
          · have h46_ : β1 = true → (icmp .lss (k : Int) el2) = false → v99 = (.slice p35 ((nextL A_m).length) q36) := hF.1
            have h47_ : β1 = true → (icmp .lss (k : Int) el2) = false → v100 = (Iv el2) := hF.2.1
            have h45_ : (β1 = true → v98 = (Bo (icmp .lss (k : Int) el2))) ∧ (¬ (β1 = true) → v98 = undef) := hF.2.2.1; have h45u := h45_.2; replace h45_ := h45_.1
            clear hF
            refine doesG_gg (b := (icmp .lss (k : Int) el2)) (c := β1 = true) rfl (fun hc => ?_) (fun hc => ?_) (fun hc hg2 => ?_) (fun hc => ⟨fun hg1 hg2 => absurd ⟨hg1, hg2⟩ hc, Ext.refl _⟩)
            · have hg1 := hc; obtain rfl := h45_ hg1; exact yld rfl rfl
            · obtain rfl := h45u hc; exact yldn rfl rfl
            have hg1 := hc
            obtain rfl := h45_ hg1
            obtain rfl := h46_ hg1 hg2
            obtain rfl := h47_ hg1 hg2
            refine (does_indexSl (R := (RS RI 1)) (i := el2) (xs := (nextL A_m)) (e := el3) Try.underlying23 Try.sizeOf27 (ev rfl) (ev rfl) (Sl.ext (hh31 _ (((Same.refl _ _).ext E42).ext E62)) (RS.mono RI.mono) hu) (by first | omega | (simp only [hβ1, icmp, Bool.or_eq_false_iff, Bool.not_eq_false', Bool.not_eq_true', decide_eq_true_eq, decide_eq_false_iff_not, bne_eq_false_iff_eq] at hg1; omega) | (simp only [hβ1, icmp, Bool.or_eq_false_iff, Bool.not_eq_false', Bool.not_eq_true', decide_eq_true_eq, decide_eq_false_iff_not, bne_eq_false_iff_eq] at hg1 hg2; omega)) hel3).mono ?_; rintro v u' ⟨b, of, cs, hv, hc, hR, hu'⟩; subst hu'
            exact ⟨fun _ _ => ⟨b, of, cs, hv, hc, hR⟩, Ext.refl _⟩
          refine RW_d _ rfl (fun v => by dsimp only [List.set]; try rfl) (fun u hu hF => ?_) (fun v102 => ?_)
          · have h48_ : β1 = true → (icmp .lss (k : Int) el2) = false → PtrR (RS RI 1) u v101 el3 := hF.1
            have h45_ : (β1 = true → v98 = (Bo (icmp .lss (k : Int) el2))) ∧ (¬ (β1 = true) → v98 = undef) := hF.2.1; have h45u := h45_.2; replace h45_ := h45_.1
            clear hF
            refine doesG_gg (b := (icmp .lss (k : Int) el2)) (c := β1 = true) rfl (fun hc => ?_) (fun hc => ?_) (fun hc hg2 => ?_) (fun hc => ⟨fun hg1 hg2 => absurd ⟨hg1, hg2⟩ hc, Ext.refl _⟩)
            · have hg1 := hc; obtain rfl := h45_ hg1; exact yld rfl rfl
            · obtain rfl := h45u hc; exact yldn rfl rfl
            have hg1 := hc
            obtain rfl := h45_ hg1
            obtain ⟨b48_, o48_, _, rfl, hc48_, ⟨y48_1, rfl, h48_2⟩⟩ := h48_ hg1 hg2
            have hh48_2 := h48_2; obtain ⟨p48_3, q48_4, rfl⟩ := Sl.shape h48_2
            refine (does_load (u := (.slice p48_3 el3.length q48_4)) (ev rfl) Try.isAgg27 (Cells.at hc48_ 0 rfl)).mono ?_; rintro _ _ ⟨rfl, rfl⟩
            exact ⟨fun _ _ => ⟨(.slice p48_3 el3.length q48_4), rfl, (by assumption)⟩, Ext.refl _⟩
          refine RW_d _ rfl (fun v => by dsimp only [List.set]; try rfl) (fun u hu hF => ?_) (fun v103 => ?_)
          · have h45_ : (β1 = true → v98 = (Bo (icmp .lss (k : Int) el2))) ∧ (¬ (β1 = true) → v98 = undef) := hF.1; have h45u := h45_.2; replace h45_ := h45_.1
            clear hF
            refine doesG_gg (b := (icmp .lss (k : Int) el2)) (c := β1 = true) rfl (fun hc => ?_) (fun hc => ?_) (fun hc hg2 => ?_) (fun hc => ⟨fun hg1 hg2 => absurd ⟨hg1, hg2⟩ hc, Ext.refl _⟩)
            · have hg1 := hc; obtain rfl := h45_ hg1; exact yld rfl rfl
            · obtain rfl := h45u hc; exact yldn rfl rfl
            have hg1 := hc
            obtain rfl := h45_ hg1
            refine (does_move (u := (Iv (k : Int))) (ev rfl)).mono ?_; rintro _ _ ⟨rfl, rfl⟩
            exact ⟨fun _ _ => rfl, Ext.refl _⟩
          refine RW_d _ rfl (fun v => by dsimp only [List.set]; try rfl) (fun u hu hF => ?_) (fun v104 => ?_)
          · have h49_ : β1 = true → (icmp .lss (k : Int) el2) = false → ∃ y_1 : Value, v102 = y_1 ∧ Sl RI 1 u y_1 el3 := hF.1
            have h50_ : β1 = true → (icmp .lss (k : Int) el2) = false → v103 = (Iv (k : Int)) := hF.2.1
            have h45_ : (β1 = true → v98 = (Bo (icmp .lss (k : Int) el2))) ∧ (¬ (β1 = true) → v98 = undef) := hF.2.2.1; have h45u := h45_.2; replace h45_ := h45_.1
            clear hF
            refine doesG_gg (b := (icmp .lss (k : Int) el2)) (c := β1 = true) rfl (fun hc => ?_) (fun hc => ?_) (fun hc hg2 => ?_) (fun hc => ⟨fun hg1 hg2 => absurd ⟨hg1, hg2⟩ hc, Ext.refl _⟩)
            · have hg1 := hc; obtain rfl := h45_ hg1; exact yld rfl rfl
            · obtain rfl := h45u hc; exact yldn rfl rfl
            have hg1 := hc
            obtain rfl := h45_ hg1
            obtain ⟨y49_1, rfl, h49_2⟩ := h49_ hg1 hg2
            have hh49_2 := h49_2; obtain ⟨p49_3, q49_4, rfl⟩ := Sl.shape h49_2
            obtain rfl := h50_ hg1 hg2
            refine (does_call (args := #[(.slice p49_3 el3.length q49_4), (Iv (k : Int))]) cal40 (evs rfl) (c_spec_l07Times (.slice p49_3 el3.length q49_4) el3 (k : Int) _ hh49_2 (by omega))).mono ?_; rintro v u' ⟨hx, hv⟩
            exact ⟨fun _ _ => hv, hx⟩
          refine RW_d _ rfl (fun v => by dsimp only [List.set]; try rfl) (fun u hu hF => ?_) (fun v105 => ?_)
          · have h51_ : β1 = true → (icmp .lss (k : Int) el2) = false → v104 = (Iv (el3.count (k : Int) : Nat)) := hF.1
            have h45_ : (β1 = true → v98 = (Bo (icmp .lss (k : Int) el2))) ∧ (¬ (β1 = true) → v98 = undef) := hF.2.1; have h45u := h45_.2; replace h45_ := h45_.1
            clear hF
            refine doesG_gg (b := (icmp .lss (k : Int) el2)) (c := β1 = true) rfl (fun hc => ?_) (fun hc => ?_) (fun hc hg2 => ?_) (fun hc => ⟨fun hg1 hg2 => absurd ⟨hg1, hg2⟩ hc, Ext.refl _⟩)
            · have hg1 := hc; obtain rfl := h45_ hg1; exact yld rfl rfl
            · obtain rfl := h45u hc; exact yldn rfl rfl
            have hg1 := hc
            obtain rfl := h45_ hg1
            obtain rfl := h51_ hg1 hg2
            refine (does_icmp (p := (el3.count (k : Int) : Nat)) (q := 0) (.inl rfl) (ev rfl) (ev rfl)).mono ?_; rintro _ _ ⟨rfl, rfl⟩
            exact ⟨fun _ _ => (by first | rfl | (show _ = _; simp only [hβ2]; done) | (show _ = _; simp only [hβ2]; rfl)), Ext.refl _⟩
          refine RW_d _ rfl (fun v => by dsimp only [List.set]; try rfl) (fun u hu hF => ?_) (fun v106 => ?_)
          · have h45_ : (β1 = true → v98 = (Bo (icmp .lss (k : Int) el2))) ∧ (¬ (β1 = true) → v98 = undef) := hF.1; have h45u := h45_.2; replace h45_ := h45_.1
            have h52_ : β1 = true → (icmp .lss (k : Int) el2) = false → v105 = (Bo β2) := hF.2.1
            have h41_ : v94 = (Bo β1) := hF.2.2.1
            clear hF
            obtain rfl := h41_
            refine doesG_g (b := β1) rfl (yld rfl rfl) (fun hg1 => ?_) (fun hc => ⟨fun hg1 => absurd hg1 hc, Ext.refl _⟩)
            skip
            obtain rfl := h45_ hg1
            replace h52_ := h52_ hg1
            refine (does_pick (b := (icmp .lss (k : Int) el2)) (u := (Bo true)) (v := v105) (ev rfl) (ev rfl) (ev rfl)).mono ?_; rintro _ _ ⟨rfl, rfl⟩; refine ⟨fun _ => ?_, Ext.refl _⟩; rw [hβ3]; skip
            cases hbb : (icmp .lss (k : Int) el2)
            all_goals first | (show _ = _; simp only [↓reduceIte, Bool.true_and, Bool.false_and, Bool.true_or, Bool.false_or, Bool.false_eq_true]; done) | (have e_ := h52_ hbb; subst e_; show _ = _; simp only [↓reduceIte, Bool.true_and, Bool.false_and, Bool.true_or, Bool.false_or, Bool.false_eq_true]; done) | rfl | (have e_ := h52_ hbb; subst e_; rfl) | (simp [hbb] at h52_ ⊢; first | done | rfl | (subst h52_; rfl) | simp_all) | (simp [hbb] at h52_ ⊢; done)
          refine RW_d _ rfl (fun v => by dsimp only [List.set]; try rfl) (fun u hu hF => ?_) (fun v107 => ?_)
          · have h41_ : v94 = (Bo β1) := hF.1
            have h53_ : β1 = true → v106 = (Bo β3) := hF.2.1
            clear hF
            refine doesG_un rfl ?_
            skip
            obtain rfl := h41_
            refine (does_pick (b := β1) (u := v106) (v := (Bo false)) (ev rfl) (ev rfl) (ev rfl)).mono ?_; rintro _ _ ⟨rfl, rfl⟩; refine ⟨?_, Ext.refl _⟩; skip
            cases hbb : β1
            all_goals first | (show _ = _; simp only [↓reduceIte, Bool.true_and, Bool.false_and, Bool.true_or, Bool.false_or, Bool.false_eq_true]; done) | (have e_ := h53_ hbb; subst e_; show _ = _; simp only [↓reduceIte, Bool.true_and, Bool.false_and, Bool.true_or, Bool.false_or, Bool.false_eq_true]; done) | rfl | (have e_ := h53_ hbb; subst e_; rfl) | (simp [hbb] at h53_ ⊢; first | done | rfl | (subst h53_; rfl) | simp_all) | (simp [hbb] at h53_ ⊢; done)
          refine RW_fin ?_; intro w108 E109 hP110
          obtain ⟨⟨⟨⟨⟨⟨⟨⟨⟨⟨⟨⟨⟨⟨⟨⟨⟨⟨⟨⟨⟨⟨⟨-, -⟩, -⟩, -⟩, -⟩, -⟩, -⟩, -⟩, -⟩, -⟩, -⟩, -⟩, -⟩, -⟩, -⟩, -⟩, -⟩, -⟩, -⟩, -⟩, -⟩, -⟩, -⟩, q111⟩ := hP110
          have X112 := Ext.gr X64 E109
          have q111 : v107 = (Bo (β1 && β3)) := q111
          obtain rfl := q111
          show wpList _ _ _ _ (fr [_, _, _, _, _, _, _, _, _, _, _, _, _, _, _, _, _, _, _, _, _, _, _, _, _, _, _, _, _, _, _, _, _, _, _, _, _, _, _, _, _, _, _, _, _, _, _, _, _, _, _, _, _, _, _, _, _, _, _, _, _, _, _, _, _, _, _]) _
          refine wpList_nil (hK84 _ _ ?_)
          refine wp_cond_split (t := β1 && β3) (ev rfl) (fun c113 => ?_) (fun c113 => ?_)
          · have c113' := c113
            (try simp only [hβ1, hβ2, hβ3] at c113')
            (try simp only [icmp, Bool.and_eq_true, Bool.or_eq_true, Bool.and_eq_false_iff, Bool.or_eq_false_iff, Bool.not_eq_true', Bool.not_eq_false', decide_eq_true_eq, decide_eq_false_iff_not, beq_iff_eq, bne_iff_ne, beq_eq_false_iff_ne, bne_eq_false_iff_eq] at c113')
            (try simp only [Int.toNat_natCast] at c113')
            refine wp_region_lit ?_
            refine q_is rfl rfl (does_move (u := (Iv ((eulTo (nextL A_m) k + eulQ (nextL A_m) k q : Nat) : Int))) (ev rfl)) (by dsimp only [List.set]; try rfl) ?_
            refine q_is rfl rfl (does_iarith (p := ((eulTo (nextL A_m) k + eulQ (nextL A_m) k q : Nat) : Int)) (q := 1) (r := ((eulTo (nextL A_m) k + eulQ (nextL A_m) k q : Nat) : Int) + 1) (ev rfl) (ev rfl) (.inl ⟨rfl, (in_i64 (by omega) (by omega)).symm⟩)) (by dsimp only [List.set]; try rfl) ?_
            refine q_is rfl rfl (does_assign (u := (Iv (((eulTo (nextL A_m) k + eulQ (nextL A_m) k q : Nat) : Int) + 1))) (ev rfl)) (by dsimp only [List.set]; try rfl) ?_
            refine wpList_nil (hK68 _ _ ?_)
            refine wp_region_lit ?_
            refine q_is rfl rfl (does_iarith (p := (q : Int)) (q := 1) (r := (q : Int) + 1) (ev rfl) (ev rfl) (.inl ⟨rfl, (in_i64 (by omega) (by omega)).symm⟩)) (by dsimp only [List.set]; try rfl) ?_
            have hl1 := nextL_most hmt hel1
            refine q_is rfl rfl (does_move (u := (Iv ((q : Int) + 1))) (ev rfl)) (by dsimp only [List.set]; try rfl) ?_
            refine wpList_nil ?_
            refine ⟨q + 1, ⟨fun t => (([(.agg #[(.slice p5 A_m.places.length q6), (.slice p8 A_m.tris.length q9)]), (Pt b12 0), (Iv 0), (Bo false), (.slice p35 ((nextL A_m).length) q36), (Iv (((eulTo (nextL A_m) k + eulQ (nextL A_m) k q : Nat) : Int) + 1)), (Iv (k : Int)), (Iv (q : Int)), (Iv el2), (Bo (meshOk A_m)), (Bo (!(meshOk A_m))), (.slice p35 ((nextL A_m).length) q36), (.slice p35 ((nextL A_m).length) q36), (Iv (((nextL A_m).length) : Int)), (Iv (k : Int)), (Bo (icmp .lss (k : Int) (((nextL A_m).length) : Int))), (Iv (k : Int)), (.slice p35 ((nextL A_m).length) q36), (Iv (k : Int)), (Pt b51 o52), (.slice p57 el1.length q58), (Iv (el1.length : Int)), (Iv ((q : Int) + 1)), (Bo (icmp .lss (q : Int) (el1.length : Int))), (Iv (q : Int)), (.slice p35 ((nextL A_m).length) q36), (Iv (k : Int)), (Pt b71 o72), (.slice p77 el1.length q78), (Iv (q : Int)), (Pt b80 o81), (Iv el2), v85, v86, v87, v88, v89, v90, v91, v92, v93, v94, v95, v96, v97, v98, v99, v100, v101, v102, v103, v104, v105, v106, (Bo (β1 && β3)), (Iv ((eulTo (nextL A_m) k + eulQ (nextL A_m) k q : Nat) : Int)), (Iv (((eulTo (nextL A_m) k + eulQ (nextL A_m) k q : Nat) : Int) + 1)), (Iv ((q : Int) + 1)), (u40 58), Ud, Ud, Ud, Ud, Ud, Ud, Ud, Ud] : List Value)[t]?).getD undef, ?_, (Ext.gr E62 E109), ?_⟩, ?_⟩
            · first | (rw [eulQ_pos hel1 hel2 hel3 (by omega) (by omega), ← Nat.add_assoc]; simp only [Int.natCast_add, Int.natCast_one]; rfl) | (rw [eulQ_neg hel1 hel2 hel3 (by omega)]; simp only [Int.natCast_add, Int.natCast_one]; rfl)
            · (try dsimp only); omega
            · (try dsimp only); omega
          have c113' := c113
          (try simp only [hβ1, hβ2, hβ3] at c113')
          (try simp only [icmp, Bool.and_eq_true, Bool.or_eq_true, Bool.and_eq_false_iff, Bool.or_eq_false_iff, Bool.not_eq_true', Bool.not_eq_false', decide_eq_true_eq, decide_eq_false_iff_not, beq_iff_eq, bne_iff_ne, beq_eq_false_iff_ne, bne_eq_false_iff_eq] at c113')
          (try simp only [Int.toNat_natCast] at c113')
          refine wp_skip (hK68 _ _ ?_)
          refine wp_region_lit ?_
          refine q_is rfl rfl (does_iarith (p := (q : Int)) (q := 1) (r := (q : Int) + 1) (ev rfl) (ev rfl) (.inl ⟨rfl, (in_i64 (by omega) (by omega)).symm⟩)) (by dsimp only [List.set]; try rfl) ?_
          have hl1 := nextL_most hmt hel1
          refine q_is rfl rfl (does_move (u := (Iv ((q : Int) + 1))) (ev rfl)) (by dsimp only [List.set]; try rfl) ?_
          refine wpList_nil ?_
          refine ⟨q + 1, ⟨fun t => (([(.agg #[(.slice p5 A_m.places.length q6), (.slice p8 A_m.tris.length q9)]), (Pt b12 0), (Iv 0), (Bo false), (.slice p35 ((nextL A_m).length) q36), (Iv ((eulTo (nextL A_m) k + eulQ (nextL A_m) k q : Nat) : Int)), (Iv (k : Int)), (Iv (q : Int)), (Iv el2), (Bo (meshOk A_m)), (Bo (!(meshOk A_m))), (.slice p35 ((nextL A_m).length) q36), (.slice p35 ((nextL A_m).length) q36), (Iv (((nextL A_m).length) : Int)), (Iv (k : Int)), (Bo (icmp .lss (k : Int) (((nextL A_m).length) : Int))), (Iv (k : Int)), (.slice p35 ((nextL A_m).length) q36), (Iv (k : Int)), (Pt b51 o52), (.slice p57 el1.length q58), (Iv (el1.length : Int)), (Iv ((q : Int) + 1)), (Bo (icmp .lss (q : Int) (el1.length : Int))), (Iv (q : Int)), (.slice p35 ((nextL A_m).length) q36), (Iv (k : Int)), (Pt b71 o72), (.slice p77 el1.length q78), (Iv (q : Int)), (Pt b80 o81), (Iv el2), v85, v86, v87, v88, v89, v90, v91, v92, v93, v94, v95, v96, v97, v98, v99, v100, v101, v102, v103, v104, v105, v106, (Bo (β1 && β3)), (u60 55), (u60 56), (Iv ((q : Int) + 1)), (u40 58), Ud, Ud, Ud, Ud, Ud, Ud, Ud, Ud] : List Value)[t]?).getD undef, ?_, (Ext.gr E62 E109), ?_⟩, ?_⟩
          · first | (rw [eulQ_pos hel1 hel2 hel3 (by omega) (by omega), ← Nat.add_assoc]; simp only [Int.natCast_add, Int.natCast_one]; rfl) | (rw [eulQ_neg hel1 hel2 hel3 (by omega)]; simp only [Int.natCast_add, Int.natCast_one]; rfl)
          · (try dsimp only); omega
          · (try dsimp only); omega
        have c67' := c67
        (try simp only [icmp, Bool.and_eq_true, Bool.or_eq_true, Bool.and_eq_false_iff, Bool.or_eq_false_iff, Bool.not_eq_true', Bool.not_eq_false', decide_eq_true_eq, decide_eq_false_iff_not, beq_iff_eq, bne_iff_ne, beq_eq_false_iff_ne, bne_eq_false_iff_eq] at c67')
        refine wp_exit ?_
        refine hK48 _ _ ?_
        refine wp_region_lit ?_
        refine q_is rfl rfl (does_iarith (p := (k : Int)) (q := 1) (r := (k : Int) + 1) (ev rfl) (ev rfl) (.inl ⟨rfl, (in_i64 (by omega) (by omega)).symm⟩)) (by dsimp only [List.set]; try rfl) ?_
        refine q_is rfl rfl (does_move (u := (Iv ((k : Int) + 1))) (ev rfl)) (by dsimp only [List.set]; try rfl) ?_
        refine wpList_nil ?_
        refine ⟨k + 1, ⟨fun t => (([(.agg #[(.slice p5 A_m.places.length q6), (.slice p8 A_m.tris.length q9)]), (Pt b12 0), (Iv 0), (Bo false), (.slice p35 ((nextL A_m).length) q36), (Iv ((eulTo (nextL A_m) k + eulQ (nextL A_m) k q : Nat) : Int)), (Iv (k : Int)), (u60 7), (u60 8), (Bo (meshOk A_m)), (Bo (!(meshOk A_m))), (.slice p35 ((nextL A_m).length) q36), (.slice p35 ((nextL A_m).length) q36), (Iv (((nextL A_m).length) : Int)), (Iv ((k : Int) + 1)), (Bo (icmp .lss (k : Int) (((nextL A_m).length) : Int))), (Iv (k : Int)), (.slice p35 ((nextL A_m).length) q36), (Iv (k : Int)), (Pt b51 o52), (.slice p57 el1.length q58), (Iv (el1.length : Int)), (Iv (q : Int)), (Bo (icmp .lss (q : Int) (el1.length : Int))), (u60 24), (u60 25), (u60 26), (u60 27), (u60 28), (u60 29), (u60 30), (u60 31), (u60 32), (u60 33), (u60 34), (u60 35), (u60 36), (u60 37), (u60 38), (u60 39), (u60 40), (u60 41), (u60 42), (u60 43), (u60 44), (u60 45), (u60 46), (u60 47), (u60 48), (u60 49), (u60 50), (u60 51), (u60 52), (u60 53), (u60 54), (u60 55), (u60 56), (u60 57), (Iv ((k : Int) + 1)), Ud, Ud, Ud, Ud, Ud, Ud, Ud, Ud] : List Value)[t]?).getD undef, ?_, (Ext.gr E42 E62), ?_⟩, ?_⟩
        · rw [eulTo_step hel1 (show q = _ by omega)]; simp only [Int.natCast_add, Int.natCast_one]; rfl
        · omega
        · omega
    have c47' := c47
    (try simp only [icmp, Bool.and_eq_true, Bool.or_eq_true, Bool.and_eq_false_iff, Bool.or_eq_false_iff, Bool.not_eq_true', Bool.not_eq_false', decide_eq_true_eq, decide_eq_false_iff_not, beq_iff_eq, bne_iff_ne, beq_eq_false_iff_ne, bne_eq_false_iff_eq] at c47')
    refine wp_exit ?_
    refine hK38 _ _ ?_
    refine wp_seq_k fun K114 hK114 => ?_
    have hul := usedL_le A_m
    have hnl := nextL_len A_m
    have hot := eulTo_le hmt k hk
    refine region_draw (
      [Fact.mem [] (fun v w' => ∃ y_1 : Value, v = y_1 ∧ Hang w41.heap.size w' (fun u => Sl RI 1 u y_1 (usedL A_m))) (by rintro v w1 w2 hx ⟨z1, rfl, k0⟩; exact ⟨_, rfl, (k0.ext hx)⟩),
    Fact.pure [59] (fun v => v = (Iv (((usedL A_m).length) : Int))),
    Fact.pure [] (fun v => v = (Iv ((eulTo (nextL A_m) k : Nat) : Int))),
    Fact.pure [60, 61] (fun v => v = (Iv ((((usedL A_m).length) : Int) - ((eulTo (nextL A_m) k : Nat) : Int)))),
    Fact.pure [] (fun v => v = (Pt b12 1)),
    Fact.pure [63] (fun v => v = (.slice p8 A_m.tris.length q9)),
    Fact.pure [64] (fun v => v = (Iv (A_m.tris.length : Int))),
    Fact.pure [62, 65] (fun v => v = (Iv (((((usedL A_m).length) : Int) - ((eulTo (nextL A_m) k : Nat) : Int)) + (A_m.tris.length : Int))))]) mixed (by kernel_rfl) (by intro _ _ d _ _ h; cases d <;> exact h) ?_
    obtain ⟨w115, hw117⟩ : ∃ w', w' = World.drew w41 := ⟨_, rfl⟩; rw [← hw117]; have E116 : Ext w41 w115 := by rw [hw117]; exact Ext.draw _
    clear hw117
    have X118 := Ext.gr X44 E116
    refine RW_d _ rfl (fun v => by dsimp only [List.set]; try rfl) (fun u hu hF => ?_) (fun v119 => ?_)
    · clear hF
      refine doesG_un rfl ?_
      refine (does_call (args := #[(Pt b12 0)]) cal26 (evs rfl) (c_spec_l07Used b12 0 [(.slice p5 A_m.places.length q6), (.slice p8 A_m.tris.length q9)] A_m _ (Blk.cells (((((hB14.ext E21).ext E29).ext E42).ext E116).ext hu)) ⟨(.slice p5 A_m.places.length q6), (.slice p8 A_m.tris.length q9), rfl, (Sl.ext (Sl.ext hs7 RV3.mono (Ext.gr X44 E116)) RV3.mono hu), (Sl.ext (Sl.ext hs10 (RS.mono RI.mono) (Ext.gr X44 E116)) (RS.mono RI.mono) hu)⟩ (by exact hmt))).mono ?_; rintro v u' ⟨hx, ⟨yn1, hv, k0⟩⟩
      exact ⟨⟨yn1, hv, (Hang.le k0 (Nat.le_trans (Below.size E116) (Below.size hu)))⟩, hx⟩
    refine RW_d _ rfl (fun v => by dsimp only [List.set]; try rfl) (fun u hu hF => ?_) (fun v120 => ?_)
    · have h59_ : ∃ y_1 : Value, v119 = y_1 ∧ Hang w41.heap.size u (fun u => Sl RI 1 u y_1 (usedL A_m)) := hF.1
      clear hF
      refine doesG_un rfl ?_
      obtain ⟨y59_2, rfl, hh59_1⟩ := h59_
      have ghh59_1 := hh59_1.get
      have hghh59_1 := ghh59_1; obtain ⟨p59_3, q59_4, rfl⟩ := Sl.shape ghh59_1
      refine (does_len_slice Try.underlying27 (ev rfl)).mono ?_; rintro _ _ ⟨rfl, rfl⟩
      exact ⟨rfl, Ext.refl _⟩
    refine RW_d _ rfl (fun v => by dsimp only [List.set]; try rfl) (fun u hu hF => ?_) (fun v121 => ?_)
    · clear hF
      refine doesG_un rfl ?_
      refine (does_move (u := (Iv ((eulTo (nextL A_m) k : Nat) : Int))) (ev rfl)).mono ?_; rintro _ _ ⟨rfl, rfl⟩
      exact ⟨rfl, Ext.refl _⟩
    refine RW_d _ rfl (fun v => by dsimp only [List.set]; try rfl) (fun u hu hF => ?_) (fun v122 => ?_)
    · have h60_ : v120 = (Iv (((usedL A_m).length) : Int)) := hF.1
      have h61_ : v121 = (Iv ((eulTo (nextL A_m) k : Nat) : Int)) := hF.2.1
      clear hF
      refine doesG_un rfl ?_
      obtain rfl := h60_
      obtain rfl := h61_
      refine (does_iarith (p := (((usedL A_m).length) : Int)) (q := ((eulTo (nextL A_m) k : Nat) : Int)) (r := (((usedL A_m).length) : Int) - ((eulTo (nextL A_m) k : Nat) : Int)) (ev rfl) (ev rfl) (.inr (.inl ⟨rfl, (in_i64 (by omega) (by omega)).symm⟩))).mono ?_; rintro _ _ ⟨rfl, rfl⟩
      exact ⟨rfl, Ext.refl _⟩
    refine RW_d _ rfl (fun v => by dsimp only [List.set]; try rfl) (fun u hu hF => ?_) (fun v123 => ?_)
    · clear hF
      refine doesG_un rfl ?_
      refine (does_fieldAddr (ev rfl) fa32_1).mono ?_; rintro _ _ ⟨rfl, rfl⟩
      exact ⟨rfl, Ext.refl _⟩
    refine RW_d _ rfl (fun v => by dsimp only [List.set]; try rfl) (fun u hu hF => ?_) (fun v124 => ?_)
    · have h63_ : v123 = (Pt b12 1) := hF.1
      clear hF
      refine doesG_un rfl ?_
      obtain rfl := h63_
      refine (does_load (u := (.slice p8 A_m.tris.length q9)) (ev rfl) Try.isAgg23 (Cells.at (Blk.cells (((((hB14.ext E21).ext E29).ext E42).ext E116).ext hu)) 1 rfl)).mono ?_; rintro _ _ ⟨rfl, rfl⟩
      exact ⟨rfl, Ext.refl _⟩
    refine RW_d _ rfl (fun v => by dsimp only [List.set]; try rfl) (fun u hu hF => ?_) (fun v125 => ?_)
    · have h64_ : v124 = (.slice p8 A_m.tris.length q9) := hF.1
      clear hF
      refine doesG_un rfl ?_
      obtain rfl := h64_
      refine (does_len_slice Try.underlying23 (ev rfl)).mono ?_; rintro _ _ ⟨rfl, rfl⟩
      exact ⟨rfl, Ext.refl _⟩
    refine RW_d _ rfl (fun v => by dsimp only [List.set]; try rfl) (fun u hu hF => ?_) (fun v126 => ?_)
    · have h62_ : v122 = (Iv ((((usedL A_m).length) : Int) - ((eulTo (nextL A_m) k : Nat) : Int))) := hF.1
      have h65_ : v125 = (Iv (A_m.tris.length : Int)) := hF.2.1
      clear hF
      refine doesG_un rfl ?_
      obtain rfl := h62_
      obtain rfl := h65_
      refine (does_iarith (p := (((usedL A_m).length) : Int) - ((eulTo (nextL A_m) k : Nat) : Int)) (q := (A_m.tris.length : Int)) (r := ((((usedL A_m).length) : Int) - ((eulTo (nextL A_m) k : Nat) : Int)) + (A_m.tris.length : Int)) (ev rfl) (ev rfl) (.inl ⟨rfl, (in_i64 (by omega) (by omega)).symm⟩)).mono ?_; rintro _ _ ⟨rfl, rfl⟩
      exact ⟨rfl, Ext.refl _⟩
    refine RW_fin ?_; intro w127 E128 hP129
    obtain ⟨⟨⟨⟨⟨⟨⟨⟨-, -⟩, -⟩, -⟩, -⟩, -⟩, -⟩, -⟩, q130⟩ := hP129
    have X131 := Ext.gr X118 E128
    have q130 : v126 = (Iv (((((usedL A_m).length) : Int) - ((eulTo (nextL A_m) k : Nat) : Int)) + (A_m.tris.length : Int))) := q130
    obtain rfl := q130
    show wpList _ _ _ _ (fr [_, _, _, _, _, _, _, _, _, _, _, _, _, _, _, _, _, _, _, _, _, _, _, _, _, _, _, _, _, _, _, _, _, _, _, _, _, _, _, _, _, _, _, _, _, _, _, _, _, _, _, _, _, _, _, _, _, _, _, _, _, _, _, _, _, _, _]) _
    refine q_is rfl rfl (does_assign (u := (Iv (((((usedL A_m).length) : Int) - ((eulTo (nextL A_m) k : Nat) : Int)) + (A_m.tris.length : Int)))) (ev rfl)) (by dsimp only [List.set]; try rfl) ?_
    refine q_is rfl rfl (does_assign (u := (Bo true)) (ev rfl)) (by dsimp only [List.set]; try rfl) ?_
    refine wpList_nil (hK114 _ _ ?_)
    refine wp_ret ?_
    refine ret_val (v := (.tuple #[(Iv (((((usedL A_m).length) : Int) - ((eulTo (nextL A_m) k : Nat) : Int)) + (A_m.tris.length : Int))), (Bo true)])) (res_TT rfl (slot rfl) (slot rfl)) X131 ?_
    have x132 : (eulN A_m : Int) = (((((usedL A_m).length) : Int) - ((eulTo (nextL A_m) k : Nat) : Int)) + (A_m.tris.length : Int)) := by first | exact hmf | exact hmt | exact eulN_f hmf | (rw [eulN_t hmt, show A_m.places.length = k by omega])
    have x133 : (meshOk A_m) = true := by first | exact hmf | exact hmt | exact eulN_f hmf | (rw [eulN_t hmt, show A_m.places.length = k by omega])
    exact (by first | with_reducible rfl | rw [x132, x133] | rw [x133, x132] | rfl)

/- (*impl.Mesh).edges -/
theorem c_impl_Mesh_edges (m_b : Nat) (m_o : Nat) (m : List Value) (A_m : MeshT) (w : World) (hc_m : Cells w m_b m_o m) (hv_m : RMeshT w A_m m) (hmt : meshOk A_m = true) : Gives Try.prog 41 #[(Pt m_b m_o)] w (fun v w' => ∃ bm_1 : Nat, v = (.map (some bm_1)) ∧ w.heap.size ≤ bm_1 ∧ MapL encP (Value.int .i64) okP w' bm_1 (edL A_m)) := by
  obtain ⟨y1, y3, rfl, h2, h4⟩ := hv_m
  have hs7 := h2; have hs7l := Sl.len h2; obtain ⟨p5, q6, rfl⟩ := Sl.shape h2
  have hs10 := h4; have hs10l := Sl.len h4; obtain ⟨p8, q9, rfl⟩ := Sl.shape h4
  have hml := mesh_len hmt
  refine enter [(Pt m_b m_o), Ud, Ud, Ud, Ud, Ud, Ud, Ud, Ud, Ud, Ud, Ud, Ud, Ud, Ud, Ud, Ud, Ud, Ud, Ud, Ud, Ud, Ud, Ud, Ud, Ud, Ud, Ud, Ud, Ud, Ud, Ud, Ud, Ud, Ud, Ud, Ud, Ud, Ud, Ud, Ud] Try.func41 rfl Try.ntmps41 rfl ?_
  refine wp_seq_k fun K11 hK11 => ?_
  refine wp_region_lit ?_
  refine q_is rfl rfl (does_assign (u := (.map none)) (ev rfl)) (by dsimp only [List.set]; try rfl) ?_
  refine wpList_nil (hK11 _ _ ?_)
  refine wp_seq_k fun K12 hK12 => ?_
  refine wp_region_lit ?_
  refine seqd rfl rfl (does_makeMap (κ := (Int × Int)) (ν := Int) encP (Value.int .i64) okP) ?_; rintro _ w17 ⟨bm13, rfl, hb14, hM15, E16⟩
  have X18 := Ext.gr (Ext.refl w) E16
  have n19 : m_b < bm13 := Nat.lt_of_lt_of_le (cell_lt (Cells.at hc_m 0 rfl)) hb14
  have g20 : w.heap.size ≤ bm13 := Nat.le_trans (Nat.le_refl _) hb14
  show wpList _ _ _ _ (fr [_, _, _, _, _, _, _, _, _, _, _, _, _, _, _, _, _, _, _, _, _, _, _, _, _, _, _, _, _, _, _, _, _, _, _, _, _, _, _, _, _]) _
  refine q_is rfl rfl (does_assign (u := (.map (some bm13))) (ev rfl)) (by dsimp only [List.set]; try rfl) ?_
  refine wpList_nil (hK12 _ _ ?_)
  refine wp_seq_k fun K21 hK21 => ?_
  refine wp_seq_k fun K22 hK22 => ?_
  refine wp_region_lit ?_
  refine q_is rfl rfl (does_move (u := (Pt m_b m_o)) (ev rfl)) (by dsimp only [List.set]; try rfl) ?_
  refine q_is rfl rfl (does_nilCheck (ev rfl)) (by dsimp only [List.set]; try rfl) ?_
  refine q_is rfl rfl (does_fieldAddr (ev rfl) fa32_1) (by dsimp only [List.set]; try rfl) ?_
  refine q_is rfl rfl (does_load (u := (.slice p8 A_m.tris.length q9)) (ev rfl) Try.isAgg23 (Cells.at (hc_m.ext X18) 1 rfl)) (by dsimp only [List.set]; try rfl) ?_
  refine q_is rfl rfl (does_len_slice Try.underlying23 (ev rfl)) (by dsimp only [List.set]; try rfl) ?_
  refine q_is rfl rfl (does_move (u := (Iv 0)) (ev rfl)) (by dsimp only [List.set]; try rfl) ?_
  refine wpList_nil (hK22 _ _ ?_)
  refine wp_block ?_
  refine loop_ghost (σ := Nat) (fun k a w' => ∃ u23 : Nat → Value, a = fr [(Pt m_b m_o), Ud, (.map none), (.map (some bm13)), Ud, (u23 5), (u23 6), (.map (some bm13)), (Pt m_b m_o), (Pt m_b m_o), (Pt m_b (m_o + 1)), (.slice p8 A_m.tris.length q9), (Iv (A_m.tris.length : Int)), (Iv (k : Int)), (u23 14), (u23 15), (u23 16), (u23 17), (u23 18), (u23 19), (u23 20), (u23 21), (u23 22), (u23 23), (u23 24), (u23 25), (u23 26), (u23 27), (u23 28), (u23 29), (u23 30), (u23 31), (u23 32), (u23 33), (u23 34), (u23 35), (u23 36), (u23 37), (u23 38), (u23 39), Ud] ∧ KpL [bm13] w17 w' ∧ MapL encP (Value.int .i64) okP w' bm13 (edTo A_m k) ∧ (k ≤ A_m.tris.length)) (fun k => A_m.tris.length - k) 0 ?_ ?_
  · refine ⟨fun t => (([(Pt m_b m_o), Ud, (.map none), (.map (some bm13)), Ud, Ud, Ud, (.map (some bm13)), (Pt m_b m_o), (Pt m_b m_o), (Pt m_b (m_o + 1)), (.slice p8 A_m.tris.length q9), (Iv (A_m.tris.length : Int)), (Iv 0), Ud, Ud, Ud, Ud, Ud, Ud, Ud, Ud, Ud, Ud, Ud, Ud, Ud, Ud, Ud, Ud, Ud, Ud, Ud, Ud, Ud, Ud, Ud, Ud, Ud, Ud, Ud] : List Value)[t]?).getD undef, rfl, KpL.refl _ _, (MapL.cast hM15 (by (try dsimp only); rfl)), ?_⟩
    exact Nat.zero_le _
  · rintro k a w24 ⟨u23, rfl, E25, hMp0, hk⟩
    have X27 := Below.kl X18 E25 (allS g20 all0) (Nat.le_refl _)
    have hM28 := hMp0; clear hMp0
    refine wp_seq_k fun K29 hK29 => ?_
    refine wp_region_lit ?_
    refine q_is rfl rfl (does_icmp (p := (k : Int)) (q := (A_m.tris.length : Int)) (.inr (.inr (.inl rfl))) (ev rfl) (ev rfl)) (by dsimp only [List.set]; try rfl) ?_
    refine wpList_nil (hK29 _ _ ?_)
    refine wp_seq_k fun K30 hK30 => ?_
    refine wp_cond_split (t := icmp .lss (k : Int) (A_m.tris.length : Int)) (ev rfl) (fun c31 => ?_) (fun c31 => ?_)
    · have c31' := c31
      (try simp only [icmp, Bool.and_eq_true, Bool.or_eq_true, Bool.and_eq_false_iff, Bool.or_eq_false_iff, Bool.not_eq_true', Bool.not_eq_false', decide_eq_true_eq, decide_eq_false_iff_not, beq_iff_eq, bne_iff_ne, beq_eq_false_iff_ne, bne_eq_false_iff_eq] at c31')
      refine wp_skip (hK30 _ _ ?_)
      refine wp_seq_k fun K32 hK32 => ?_
      refine wp_block ?_
      refine wp_seq_k fun K33 hK33 => ?_
      refine wp_region_lit ?_
      obtain ⟨el1, hel1⟩ : ∃ e, A_m.tris[k]? = some e := ⟨_, List.getElem?_eq_getElem (by omega)⟩
      refine seqd rfl rfl (does_indexSl0 (R := (RS RI 1)) (i := (k : Int)) (xs := A_m.tris) (e := el1) Try.underlying23 Try.sizeOf27 (ev rfl) (ev rfl) hs10 (by omega) hel1) ?_; rintro _ w24 ⟨b34, o35, _, rfl, hc37, ⟨y38, rfl, h39⟩, rfl⟩
      have hs42 := h39; have hs42l := Sl.len h39; obtain ⟨p40, q41, rfl⟩ := Sl.shape h39
      show wpList _ _ _ _ (fr [_, _, _, _, _, _, _, _, _, _, _, _, _, _, _, _, _, _, _, _, _, _, _, _, _, _, _, _, _, _, _, _, _, _, _, _, _, _, _, _, _]) _
      refine q_is rfl rfl (does_load (u := (.slice p40 el1.length q41)) (ev rfl) Try.isAgg27 (Cells.at (hc37.ext X27) 0 rfl)) (by dsimp only [List.set]; try rfl) ?_
      refine q_is rfl rfl (does_assign (u := (.slice p40 el1.length q41)) (ev rfl)) (by dsimp only [List.set]; try rfl) ?_
      refine wpList_nil (hK33 _ _ ?_)
      refine wp_seq_k fun K43 hK43 => ?_
      refine wp_region_lit ?_
      have ht3_ := (mesh_tri hmt hel1).1
      refine q_is rfl rfl (does_move (u := (.slice p40 el1.length q41)) (ev rfl)) (by dsimp only [List.set]; try rfl) ?_
      refine q_is rfl rfl (does_len_slice Try.underlying27 (ev rfl)) (by dsimp only [List.set]; try rfl) ?_
      refine q_is rfl rfl (does_move (u := (Iv 0)) (ev rfl)) (by dsimp only [List.set]; try rfl) ?_
      refine wpList_nil (hK43 _ _ ?_)
      refine wp_block ?_
      refine loop_ghost (σ := Nat) (fun q a w' => ∃ u44 : Nat → Value, a = fr [(Pt m_b m_o), Ud, (.map none), (.map (some bm13)), Ud, (.slice p40 el1.length q41), (u44 6), (.map (some bm13)), (Pt m_b m_o), (Pt m_b m_o), (Pt m_b (m_o + 1)), (.slice p8 A_m.tris.length q9), (Iv (A_m.tris.length : Int)), (Iv (k : Int)), (Bo (icmp .lss (k : Int) (A_m.tris.length : Int))), (Pt b34 o35), (.slice p40 el1.length q41), (.slice p40 el1.length q41), (Iv (el1.length : Int)), (Iv (q : Int)), (u44 20), (u44 21), (u44 22), (u44 23), (u44 24), (u44 25), (u44 26), (u44 27), (u44 28), (u44 29), (u44 30), (u44 31), (u44 32), (u44 33), (u44 34), (u44 35), (u44 36), (u44 37), (u44 38), (u23 39), Ud] ∧ KpL [bm13] w24 w' ∧ MapL encP (Value.int .i64) okP w' bm13 (edQ el1 (edTo A_m k) q) ∧ (q ≤ el1.length)) (fun q => el1.length - q) 0 ?_ ?_
      · refine ⟨fun t => (([(Pt m_b m_o), Ud, (.map none), (.map (some bm13)), Ud, (.slice p40 el1.length q41), (u23 6), (.map (some bm13)), (Pt m_b m_o), (Pt m_b m_o), (Pt m_b (m_o + 1)), (.slice p8 A_m.tris.length q9), (Iv (A_m.tris.length : Int)), (Iv (k : Int)), (Bo (icmp .lss (k : Int) (A_m.tris.length : Int))), (Pt b34 o35), (.slice p40 el1.length q41), (.slice p40 el1.length q41), (Iv (el1.length : Int)), (Iv 0), (u23 20), (u23 21), (u23 22), (u23 23), (u23 24), (u23 25), (u23 26), (u23 27), (u23 28), (u23 29), (u23 30), (u23 31), (u23 32), (u23 33), (u23 34), (u23 35), (u23 36), (u23 37), (u23 38), (u23 39), Ud] : List Value)[t]?).getD undef, rfl, KpL.refl _ _, (MapL.cast hM28 (by (try dsimp only); rfl)), ?_⟩
        exact Nat.zero_le _
      · rintro q a w45 ⟨u44, rfl, E46, hMp0, hq⟩
        have X48 := Below.kl X27 E46 (allS g20 all0) (Nat.le_refl _)
        have hM49 := hMp0; clear hMp0
        refine wp_seq_k fun K50 hK50 => ?_
        refine wp_region_lit ?_
        refine q_is rfl rfl (does_icmp (p := (q : Int)) (q := (el1.length : Int)) (.inr (.inr (.inl rfl))) (ev rfl) (ev rfl)) (by dsimp only [List.set]; try rfl) ?_
        refine wpList_nil (hK50 _ _ ?_)
        refine wp_seq_k fun K51 hK51 => ?_
        refine wp_cond_split (t := icmp .lss (q : Int) (el1.length : Int)) (ev rfl) (fun c52 => ?_) (fun c52 => ?_)
        · have c52' := c52
          (try simp only [icmp, Bool.and_eq_true, Bool.or_eq_true, Bool.and_eq_false_iff, Bool.or_eq_false_iff, Bool.not_eq_true', Bool.not_eq_false', decide_eq_true_eq, decide_eq_false_iff_not, beq_iff_eq, bne_iff_ne, beq_eq_false_iff_ne, bne_eq_false_iff_eq] at c52')
          refine wp_skip (hK51 _ _ ?_)
          refine wp_seq_k fun K53 hK53 => ?_
          refine wp_block ?_
          refine wp_seq_k fun K54 hK54 => ?_
          refine wp_region_lit ?_
          refine q_is rfl rfl (does_move (u := (Iv (q : Int))) (ev rfl)) (by dsimp only [List.set]; try rfl) ?_
          refine q_is rfl rfl (does_assign (u := (Iv (q : Int))) (ev rfl)) (by dsimp only [List.set]; try rfl) ?_
          refine wpList_nil (hK54 _ _ ?_)
          have n58 : bm13 < w45.heap.size := MapL.lt hM49
          have htr := mesh_tri hmt hel1
          have ht3 := htr.1
          obtain ⟨el2, hel2⟩ : ∃ e, el1[q]? = some e := ⟨_, List.getElem?_eq_getElem (by omega)⟩
          obtain ⟨el3, hel3⟩ : ∃ e, el1[(((q : Int) + 1) % 3).toNat]? = some e := ⟨_, List.getElem?_eq_getElem (by omega)⟩
          have hb2 := htr.2 _ (List.mem_of_getElem? hel2)
          have hb3 := htr.2 _ (List.mem_of_getElem? hel3)
          have hea := edQ_at el1 A_m k q (el2, el3)
          refine region_anyJ [bm13] [0, 0, 0, 6, 14, 0, 0, 64, 192, 480, 992, 2046, 4095, 8191, 4095, 20479, 65535] [0] (
            [FactW.pure [] [] [0] true (fun v => v = (.map (some bm13))),
              FactW.pure [] [] [0] true (fun v => v = (.slice p40 el1.length q41)),
              FactW.pure [] [] [0] true (fun v => v = (Iv (q : Int))),
              FactW.pure [1, 2] [] [0] true (fun v => PtrR RI w v el2),
              FactW.pure [3] [] [0] true (fun v => v = (Iv el2)),
              FactW.pure [] [] [0] true (fun v => v = (.slice p40 el1.length q41)),
              FactW.pure [] [] [0] true (fun v => v = (Iv (q : Int))),
              FactW.pure [6] [] [0] true (fun v => v = (Iv ((q : Int) + 1))),
              FactW.pure [7] [] [0] true (fun v => v = (Iv (((q : Int) + 1) % 3))),
              FactW.pure [5, 8] [] [0] true (fun v => PtrR RI w v el3),
              FactW.pure [9] [] [0] true (fun v => v = (Iv el3)),
              FactW.pure [4, 10] [] [0] true (fun v => v = (.agg #[(Iv el2), (Iv el3)])),
              FactW.pure [0, 11] [0] [0] true (fun v => v = (Iv ((atM (edQ el1 (edTo A_m k) q) (el2, el3)).getD 0))),
              FactW.pure [12] [0] [0] true (fun v => v = (Iv (((atM (edQ el1 (edTo A_m k) q) (el2, el3)).getD 0) + 1))),
              FactW.mem [0, 11] [] [0] [] true (fun v w' => ∃ v0 st, v = .tuple #[v0, goInt (st : Nat)] ∧ MapE encP (Value.int .i64) okP (0 : Int) w' bm13 (edQ el1 (edTo A_m k) q) (el2, el3) st) (by rintro v w1 w2 hx ⟨v0, st, hv, h⟩; exact ⟨v0, st, hv, MapE.ext h (KpL.toExt hx)⟩),
              FactW.mem [14] [0] [] [] true (fun v w' => ∃ st : Nat, v = goInt st ∧ MapE encP (Value.int .i64) okP (0 : Int) w' bm13 (edQ el1 (edTo A_m k) q) (el2, el3) st) (by rintro v w1 w2 hx ⟨st, hv, h⟩; exact ⟨st, hv, MapE.ext h (KpL.toExt hx)⟩)]) (fun u => MapL encP (Value.int .i64) okP u bm13 (edQ el1 (edTo A_m k) q) ∨ ∃ st, MapE encP (Value.int .i64) okP (0 : Int) u bm13 (edQ el1 (edTo A_m k) q) (el2, el3) st) (.inl (MapL.ext hM49 (Ext.draw _))) mixed (by kernel_rfl) ?_
          obtain ⟨w55, hw57⟩ : ∃ w', w' = World.drew w45 := ⟨_, rfl⟩; rw [← hw57]; have E56 : Ext w45 w55 := by rw [hw57]; exact Ext.draw _
          clear hw57
          have X60 := Ext.gr X48 E56
          have hJE59 : ∀ w w', Ext w w' → (fun u => MapL encP (Value.int .i64) okP u bm13 (edQ el1 (edTo A_m k) q) ∨ ∃ st, MapE encP (Value.int .i64) okP (0 : Int) u bm13 (edQ el1 (edTo A_m k) q) (el2, el3) st) w → (fun u => MapL encP (Value.int .i64) okP u bm13 (edQ el1 (edTo A_m k) q) ∨ ∃ st, MapE encP (Value.int .i64) okP (0 : Int) u bm13 (edQ el1 (edTo A_m k) q) (el2, el3) st) w' := fun w w' hx h => h.elim (fun h => .inl (MapL.ext h hx)) (fun ⟨st, h⟩ => .inr ⟨st, MapE.ext h hx⟩)
          refine RWJ_d hJE59 _ rfl rfl (fun v => by dsimp only [List.set]; try rfl) (fun u hu hJ hF => ?_) (fun v61 => ?_)
          · replace hu : KpL [] _ _ := hu
            clear hF
            refine doesG_un rfl ?_
            refine (does_move (u := (.map (some bm13))) (ev rfl)).mono ?_; rintro _ _ ⟨rfl, rfl⟩
            exact ⟨rfl, KpL.refl _ _⟩
          refine RWJ_d hJE59 _ rfl rfl (fun v => by dsimp only [List.set]; try rfl) (fun u hu hJ hF => ?_) (fun v62 => ?_)
          · replace hu : KpL [] _ _ := hu
            clear hF
            refine doesG_un rfl ?_
            refine (does_move (u := (.slice p40 el1.length q41)) (ev rfl)).mono ?_; rintro _ _ ⟨rfl, rfl⟩
            exact ⟨rfl, KpL.refl _ _⟩
          refine RWJ_d hJE59 _ rfl rfl (fun v => by dsimp only [List.set]; try rfl) (fun u hu hJ hF => ?_) (fun v63 => ?_)
          · replace hu : KpL [] _ _ := hu
            clear hF
            refine doesG_un rfl ?_
            refine (does_move (u := (Iv (q : Int))) (ev rfl)).mono ?_; rintro _ _ ⟨rfl, rfl⟩
            exact ⟨rfl, KpL.refl _ _⟩
          refine RWJ_d hJE59 _ rfl rfl (fun v => by dsimp only [List.set]; try rfl) (fun u hu hJ hF => ?_) (fun v64 => ?_)
          · replace hu : KpL [] _ _ := hu
            have h23_ : v62 = (.slice p40 el1.length q41) := hF.1
            have h24_ : v63 = (Iv (q : Int)) := hF.2.1
            clear hF
            refine doesG_un rfl ?_
            obtain rfl := h23_
            obtain rfl := h24_
            refine (does_indexSl0 (R := RI) (i := (q : Int)) (xs := el1) (e := el2) Try.underlying27 Try.sizeOf2 (ev rfl) (ev rfl) hs42 (by omega) hel2).mono ?_; rintro v u' ⟨b, of, cs, hv, hc, hR, hu'⟩; subst hu'
            exact ⟨⟨b, of, cs, hv, hc, hR⟩, KpL.refl _ _⟩
          refine RWJ_d hJE59 _ rfl rfl (fun v => by dsimp only [List.set]; try rfl) (fun u hu hJ hF => ?_) (fun v65 => ?_)
          · replace hu : KpL [] _ _ := hu
            have h25_ : PtrR RI w v64 el2 := hF.1
            clear hF
            refine doesG_un rfl ?_
            obtain ⟨b25_, o25_, _, rfl, hc25_, rfl⟩ := h25_
            refine (does_load (u := (Iv el2)) (ev rfl) Try.isAgg2 (Cells.at (hc25_.ext (Ext.gr (Ext.gr X48 E56) (KpL.toExt hu))) 0 rfl)).mono ?_; rintro _ _ ⟨rfl, rfl⟩
            exact ⟨rfl, KpL.refl _ _⟩
          refine RWJ_d hJE59 _ rfl rfl (fun v => by dsimp only [List.set]; try rfl) (fun u hu hJ hF => ?_) (fun v66 => ?_)
          · replace hu : KpL [] _ _ := hu
            clear hF
            refine doesG_un rfl ?_
            refine (does_move (u := (.slice p40 el1.length q41)) (ev rfl)).mono ?_; rintro _ _ ⟨rfl, rfl⟩
            exact ⟨rfl, KpL.refl _ _⟩
          refine RWJ_d hJE59 _ rfl rfl (fun v => by dsimp only [List.set]; try rfl) (fun u hu hJ hF => ?_) (fun v67 => ?_)
          · replace hu : KpL [] _ _ := hu
            clear hF
            refine doesG_un rfl ?_
            refine (does_move (u := (Iv (q : Int))) (ev rfl)).mono ?_; rintro _ _ ⟨rfl, rfl⟩
            exact ⟨rfl, KpL.refl _ _⟩
          refine RWJ_d hJE59 _ rfl rfl (fun v => by dsimp only [List.set]; try rfl) (fun u hu hJ hF => ?_) (fun v68 => ?_)
          · replace hu : KpL [] _ _ := hu
            have h28_ : v67 = (Iv (q : Int)) := hF.1
            clear hF
            refine doesG_un rfl ?_
            obtain rfl := h28_
            refine (does_iarith (p := (q : Int)) (q := 1) (r := (q : Int) + 1) (ev rfl) (ev rfl) (.inl ⟨rfl, (in_i64 (by omega) (by omega)).symm⟩)).mono ?_; rintro _ _ ⟨rfl, rfl⟩
            exact ⟨rfl, KpL.refl _ _⟩
          refine RWJ_d hJE59 _ rfl rfl (fun v => by dsimp only [List.set]; try rfl) (fun u hu hJ hF => ?_) (fun v69 => ?_)
          · replace hu : KpL [] _ _ := hu
            have h29_ : v68 = (Iv ((q : Int) + 1)) := hF.1
            clear hF
            refine doesG_un rfl ?_
            obtain rfl := h29_
            refine (does_irem (p := (q : Int) + 1) (q := 3) (ev rfl) (ev rfl) (by first | omega | assumption) (by first | omega | assumption) (by first | omega | assumption)).mono ?_; rintro _ _ ⟨rfl, rfl⟩
            exact ⟨rfl, KpL.refl _ _⟩
          refine RWJ_d hJE59 _ rfl rfl (fun v => by dsimp only [List.set]; try rfl) (fun u hu hJ hF => ?_) (fun v70 => ?_)
          · replace hu : KpL [] _ _ := hu
            have h27_ : v66 = (.slice p40 el1.length q41) := hF.1
            have h30_ : v69 = (Iv (((q : Int) + 1) % 3)) := hF.2.1
            clear hF
            refine doesG_un rfl ?_
            obtain rfl := h27_
            obtain rfl := h30_
            refine (does_indexSl0 (R := RI) (i := ((q : Int) + 1) % 3) (xs := el1) (e := el3) Try.underlying27 Try.sizeOf2 (ev rfl) (ev rfl) hs42 (by omega) hel3).mono ?_; rintro v u' ⟨b, of, cs, hv, hc, hR, hu'⟩; subst hu'
            exact ⟨⟨b, of, cs, hv, hc, hR⟩, KpL.refl _ _⟩
          refine RWJ_d hJE59 _ rfl rfl (fun v => by dsimp only [List.set]; try rfl) (fun u hu hJ hF => ?_) (fun v71 => ?_)
          · replace hu : KpL [] _ _ := hu
            have h31_ : PtrR RI w v70 el3 := hF.1
            clear hF
            refine doesG_un rfl ?_
            obtain ⟨b31_, o31_, _, rfl, hc31_, rfl⟩ := h31_
            refine (does_load (u := (Iv el3)) (ev rfl) Try.isAgg2 (Cells.at (hc31_.ext (Ext.gr (Ext.gr X48 E56) (KpL.toExt hu))) 0 rfl)).mono ?_; rintro _ _ ⟨rfl, rfl⟩
            exact ⟨rfl, KpL.refl _ _⟩
          refine RWJ_d hJE59 _ rfl rfl (fun v => by dsimp only [List.set]; try rfl) (fun u hu hJ hF => ?_) (fun v72 => ?_)
          · replace hu : KpL [] _ _ := hu
            have h26_ : v65 = (Iv el2) := hF.1
            have h32_ : v71 = (Iv el3) := hF.2.1
            clear hF
            refine doesG_un rfl ?_
            obtain rfl := h26_
            obtain rfl := h32_
            refine (does_build (parts' := [(0, (Iv el2)), (1, (Iv el3))]) (cells := #[(Iv el2), (Iv el3)]) (evp rfl) (by kernel_rfl)).mono ?_; rintro _ _ ⟨rfl, rfl⟩
            exact ⟨rfl, KpL.refl _ _⟩
          refine RWJ_d hJE59 _ rfl rfl (fun v => by dsimp only [List.set]; try rfl) (fun u hu hJ hF => ?_) (fun v73 => ?_)
          · replace hu : KpL [bm13] _ _ := hu
            have h22_ : v61 = (.map (some bm13)) := hF.1
            have h33_ : v72 = (.agg #[(Iv el2), (Iv el3)]) := hF.2.1
            clear hF
            refine doesG_un rfl ?_
            obtain rfl := h22_
            obtain rfl := h33_
            refine (does_lookupJ (l := (edQ el1 (edTo A_m k) q)) (p := (el2, el3)) (z := (0 : Int)) kE66 Try.underlying64 Try.zeroValue3 (ev rfl) (ev rfl) hJ (by first | assumption | (refine ⟨?_, ?_, ?_, ?_⟩ <;> (try dsimp only) <;> omega))).mono ?_; rintro _ _ ⟨rfl, rfl⟩
            exact ⟨rfl, KpL.refl _ _⟩
          refine RWJ_d hJE59 _ rfl rfl (fun v => by dsimp only [List.set]; try rfl) (fun u hu hJ hF => ?_) (fun v74 => ?_)
          · replace hu : KpL [bm13] _ _ := hu
            have h34_ : v73 = (Iv ((atM (edQ el1 (edTo A_m k) q) (el2, el3)).getD 0)) := hF.1
            clear hF
            refine doesG_un rfl ?_
            obtain rfl := h34_
            refine (does_iarith (p := ((atM (edQ el1 (edTo A_m k) q) (el2, el3)).getD 0)) (q := 1) (r := ((atM (edQ el1 (edTo A_m k) q) (el2, el3)).getD 0) + 1) (ev rfl) (ev rfl) (.inl ⟨rfl, (in_i64 (by omega) (by omega)).symm⟩)).mono ?_; rintro _ _ ⟨rfl, rfl⟩
            exact ⟨rfl, KpL.refl _ _⟩
          refine RWJ_w _ rfl (fun v => by dsimp only [List.set]; try rfl) (fun u hu hJ hF => ?_) (fun v75 => ?_)
          · replace hu : KpL [] _ _ := hu
            have h22_ : v61 = (.map (some bm13)) := hF.1
            have h33_ : v72 = (.agg #[(Iv el2), (Iv el3)]) := hF.2.1
            clear hF
            refine doesG_un rfl ?_
            obtain rfl := h22_
            obtain rfl := h33_
            refine (does_mapEntry (l := (edQ el1 (edTo A_m k) q)) (p := (el2, el3)) (z := (0 : Int)) kE66 Try.underlying64 Try.zeroValue3 (ev rfl) (ev rfl) (MapL.ext (MapL.ext hM49 E56) (KpL.toExt hu)) (by first | assumption | (refine ⟨?_, ?_, ?_, ?_⟩ <;> (try dsimp only) <;> omega))).mono ?_; rintro v u' ⟨v0, st, hv, hK, hE⟩
            exact ⟨⟨v0, st, hv, hE⟩, hK, .inr ⟨st, hE⟩⟩
          refine RWJ_d hJE59 _ rfl rfl (fun v => by dsimp only [List.set]; try rfl) (fun u hu hJ hF => ?_) (fun v76 => ?_)
          · replace hu : KpL [bm13] _ _ := hu
            have h36_ : ∃ v0 st, v75 = .tuple #[v0, goInt (st : Nat)] ∧ MapE encP (Value.int .i64) okP (0 : Int) u bm13 (edQ el1 (edTo A_m k) q) (el2, el3) st := hF.1
            clear hF
            refine doesG_un rfl ?_
            obtain ⟨v0_, st_, rfl, hME⟩ := h36_
            refine (does_extract (vs := #[v0_, goInt (st_ : Nat)]) (u := goInt (st_ : Nat)) (ev rfl) rfl).mono ?_; rintro _ _ ⟨rfl, rfl⟩; exact ⟨⟨st_, rfl, hME⟩, KpL.refl _ _⟩
          refine RWJ_fin ?_; intro w77 E78 hJ_ hP79; replace E78 : KpL [bm13] _ _ := E78
          obtain ⟨⟨⟨⟨⟨⟨⟨⟨⟨⟨⟨⟨⟨⟨⟨⟨-, q80⟩, -⟩, -⟩, -⟩, -⟩, -⟩, -⟩, -⟩, -⟩, -⟩, -⟩, -⟩, -⟩, q81⟩, -⟩, q82⟩ := hP79
          have X83 := Below.kl X60 E78 (allS g20 all0) (Nat.le_refl _)
          have q80 : v61 = (.map (some bm13)) := q80 rfl
          obtain rfl := q80
          have q81 : v74 = (Iv (((atM (edQ el1 (edTo A_m k) q) (el2, el3)).getD 0) + 1)) := q81 rfl
          obtain rfl := q81
          obtain ⟨st84, hv_, hE85⟩ := q82 rfl; subst hv_
          show wpList _ _ _ _ (fr [_, _, _, _, _, _, _, _, _, _, _, _, _, _, _, _, _, _, _, _, _, _, _, _, _, _, _, _, _, _, _, _, _, _, _, _, _, _, _, _, _]) _
          refine seqn rfl rfl (does_entryStore (z := (0 : Int)) (l := (edQ el1 (edTo A_m k) q)) (p := (el2, el3)) (v := (((atM (edQ el1 (edTo A_m k) q) (el2, el3)).getD 0) + 1)) (st := st84) kE66 (ev rfl) (ev rfl) (ev rfl) hE85) ?_; rintro _ w88 ⟨rfl, K86, hM87⟩
          have X89 := Below.kl X83 K86 (allS g20 all0) (Nat.le_refl _)
          show wpList _ _ _ _ (fr [_, _, _, _, _, _, _, _, _, _, _, _, _, _, _, _, _, _, _, _, _, _, _, _, _, _, _, _, _, _, _, _, _, _, _, _, _, _, _, _, _]) _
          refine wpList_nil (hK53 _ _ ?_)
          refine wp_region_lit ?_
          refine q_is rfl rfl (does_iarith (p := (q : Int)) (q := 1) (r := (q : Int) + 1) (ev rfl) (ev rfl) (.inl ⟨rfl, (in_i64 (by omega) (by omega)).symm⟩)) (by dsimp only [List.set]; try rfl) ?_
          refine q_is rfl rfl (does_move (u := (Iv ((q : Int) + 1))) (ev rfl)) (by dsimp only [List.set]; try rfl) ?_
          refine wpList_nil ?_
          have hM90 := MapL.cast (l' := ((fun (q : Nat) => edQ el1 (edTo A_m k) q) (q + 1))) hM87 (by (try dsimp only); exact edQ_step hel2 hel3)
          refine ⟨q + 1, ⟨fun t => (([(Pt m_b m_o), Ud, (.map none), (.map (some bm13)), Ud, (.slice p40 el1.length q41), (Iv (q : Int)), (.map (some bm13)), (Pt m_b m_o), (Pt m_b m_o), (Pt m_b (m_o + 1)), (.slice p8 A_m.tris.length q9), (Iv (A_m.tris.length : Int)), (Iv (k : Int)), (Bo (icmp .lss (k : Int) (A_m.tris.length : Int))), (Pt b34 o35), (.slice p40 el1.length q41), (.slice p40 el1.length q41), (Iv (el1.length : Int)), (Iv ((q : Int) + 1)), (Bo (icmp .lss (q : Int) (el1.length : Int))), (Iv (q : Int)), (.map (some bm13)), v62, v63, v64, v65, v66, v67, v68, v69, v70, v71, v72, v73, (Iv (((atM (edQ el1 (edTo A_m k) q) (el2, el3)).getD 0) + 1)), v75, (Iv (st84 : Int)), (Iv ((q : Int) + 1)), (u23 39), Ud] : List Value)[t]?).getD undef, ?_, (KpL.more (KpL.more (KpL.ext E46 E56) E78 (allS (.inl (by simp)) all0)) K86 (allS (.inl (by simp)) all0)), hM90, ?_⟩, ?_⟩
          · first | rfl | (simp only [Int.natCast_add, Int.natCast_one]; rfl)
          · (try dsimp only); omega
          · (try dsimp only); omega
        have c52' := c52
        (try simp only [icmp, Bool.and_eq_true, Bool.or_eq_true, Bool.and_eq_false_iff, Bool.or_eq_false_iff, Bool.not_eq_true', Bool.not_eq_false', decide_eq_true_eq, decide_eq_false_iff_not, beq_iff_eq, bne_iff_ne, beq_eq_false_iff_ne, bne_eq_false_iff_eq] at c52')
        refine wp_exit ?_
        refine hK32 _ _ ?_
        refine wp_region_lit ?_
        refine q_is rfl rfl (does_iarith (p := (k : Int)) (q := 1) (r := (k : Int) + 1) (ev rfl) (ev rfl) (.inl ⟨rfl, (in_i64 (by omega) (by omega)).symm⟩)) (by dsimp only [List.set]; try rfl) ?_
        refine q_is rfl rfl (does_move (u := (Iv ((k : Int) + 1))) (ev rfl)) (by dsimp only [List.set]; try rfl) ?_
        refine wpList_nil ?_
        have hM91 := MapL.cast (l' := ((fun (k : Nat) => edTo A_m k) (k + 1))) hM49 (by (try dsimp only); exact edTo_step hel1 (by omega))
        refine ⟨k + 1, ⟨fun t => (([(Pt m_b m_o), Ud, (.map none), (.map (some bm13)), Ud, (.slice p40 el1.length q41), (u44 6), (.map (some bm13)), (Pt m_b m_o), (Pt m_b m_o), (Pt m_b (m_o + 1)), (.slice p8 A_m.tris.length q9), (Iv (A_m.tris.length : Int)), (Iv ((k : Int) + 1)), (Bo (icmp .lss (k : Int) (A_m.tris.length : Int))), (Pt b34 o35), (.slice p40 el1.length q41), (.slice p40 el1.length q41), (Iv (el1.length : Int)), (Iv (q : Int)), (Bo (icmp .lss (q : Int) (el1.length : Int))), (u44 21), (u44 22), (u44 23), (u44 24), (u44 25), (u44 26), (u44 27), (u44 28), (u44 29), (u44 30), (u44 31), (u44 32), (u44 33), (u44 34), (u44 35), (u44 36), (u44 37), (u44 38), (Iv ((k : Int) + 1)), Ud] : List Value)[t]?).getD undef, ?_, (KpL.more E25 E46 (allS (.inl (by simp)) all0)), hM91, ?_⟩, ?_⟩
        · first | rfl | (simp only [Int.natCast_add, Int.natCast_one]; rfl)
        · omega
        · omega
    have c31' := c31
    (try simp only [icmp, Bool.and_eq_true, Bool.or_eq_true, Bool.and_eq_false_iff, Bool.or_eq_false_iff, Bool.not_eq_true', Bool.not_eq_false', decide_eq_true_eq, decide_eq_false_iff_not, beq_iff_eq, bne_iff_ne, beq_eq_false_iff_ne, bne_eq_false_iff_eq] at c31')
    refine wp_exit ?_
    refine hK21 _ _ ?_
    refine wp_seq_k fun K92 hK92 => ?_
    refine wp_region_lit ?_
    refine q_is rfl rfl (does_move (u := (.map (some bm13))) (ev rfl)) (by dsimp only [List.set]; try rfl) ?_
    refine q_is rfl rfl (does_assign (u := (.map (some bm13))) (ev rfl)) (by dsimp only [List.set]; try rfl) ?_
    refine wpList_nil (hK92 _ _ ?_)
    refine wp_ret ?_
    refine ret_val (v := (.map (some bm13))) (res_T rfl (slot rfl)) X27 ?_
    have x93 : (edTo A_m k) = (edL A_m) := by first | rfl | (rw [show k = A_m.tris.length by omega]; rfl)
    exact ⟨bm13, rfl, (Nat.le_trans (Nat.le_refl _) hb14), (MapL.cast hM28 x93)⟩

/- impl.EulerOf -/
theorem c_impl_EulerOf (m : List Value) (A_m : MeshT) (w : World) (hv_m : RMeshT w A_m m) : Gives Try.prog 20 #[(.agg m.toArray)] w (fun v w' => v = (.tuple #[(Iv (eulN A_m)), (Bo (meshOk A_m))])) := by
  obtain ⟨y1, y3, rfl, h2, h4⟩ := hv_m
  have hs7 := h2; have hs7l := Sl.len h2; obtain ⟨p5, q6, rfl⟩ := Sl.shape h2
  have hs10 := h4; have hs10l := Sl.len h4; obtain ⟨p8, q9, rfl⟩ := Sl.shape h4
  refine enter [(.agg #[(.slice p5 A_m.places.length q6), (.slice p8 A_m.tris.length q9)]), Ud, Ud, Ud, Ud, Ud, Ud, Ud, Ud, Ud, Ud, Ud, Ud, Ud, Ud, Ud, Ud, Ud, Ud, Ud, Ud, Ud, Ud, Ud, Ud, Ud, Ud, Ud, Ud, Ud, Ud, Ud, Ud, Ud, Ud, Ud, Ud] Try.func20 rfl Try.ntmps20 rfl ?_
  refine wp_seq_k fun K11 hK11 => ?_
  refine wp_region_lit ?_
  refine seqd rfl rfl (does_box (u := (.agg #[(.slice p5 A_m.places.length q6), (.slice p8 A_m.tris.length q9)])) (ev rfl)) ?_; rintro _ w16 ⟨b12, rfl, hb13, hB14, E15⟩
  have g17 : w.heap.size ≤ b12 := Nat.le_trans (Below.size (Ext.refl w)) hb13
  change Blk _ _ [(.slice p5 A_m.places.length q6), (.slice p8 A_m.tris.length q9)] at hB14
  have X18 := Ext.gr (Ext.refl w) E15
  show wpList _ _ _ _ (fr [_, _, _, _, _, _, _, _, _, _, _, _, _, _, _, _, _, _, _, _, _, _, _, _, _, _, _, _, _, _, _, _, _, _, _, _, _]) _
  refine q_is rfl rfl (does_assign (u := (Iv 0)) (ev rfl)) (by dsimp only [List.set]; try rfl) ?_
  refine q_is rfl rfl (does_assign (u := (Bo false)) (ev rfl)) (by dsimp only [List.set]; try rfl) ?_
  refine wpList_nil (hK11 _ _ ?_)
  refine wp_seq_k fun K19 hK19 => ?_
  refine wp_seq_k fun K20 hK20 => ?_
  refine wp_region_lit ?_
  refine q_is rfl rfl (does_loadAgg (cs := [(.slice p5 A_m.places.length q6), (.slice p8 A_m.tris.length q9)]) (ev rfl) Try.isAgg32 Try.sizeOf32 (Blk.cells hB14) rfl) (by dsimp only [List.set]; try rfl) ?_
  refine seqd rfl rfl (does_call (args := #[(.agg #[(.slice p5 A_m.places.length q6), (.slice p8 A_m.tris.length q9)])]) cal29 (evs rfl) (c_impl_ValidMesh [(.slice p5 A_m.places.length q6), (.slice p8 A_m.tris.length q9)] A_m _ ⟨(.slice p5 A_m.places.length q6), (.slice p8 A_m.tris.length q9), rfl, (Sl.ext hs7 RV3.mono X18), (Sl.ext hs10 (RS.mono RI.mono) X18)⟩)) ?_; rintro _ w22 ⟨E21, rfl⟩
  have X23 := Ext.gr X18 E21
  show wpList _ _ _ _ (fr [_, _, _, _, _, _, _, _, _, _, _, _, _, _, _, _, _, _, _, _, _, _, _, _, _, _, _, _, _, _, _, _, _, _, _, _, _]) _
  refine q_is rfl rfl (does_not (ev rfl)) (by dsimp only [List.set]; try rfl) ?_
  refine wpList_nil (hK20 _ _ ?_)
  refine wp_cond_split (t := !(meshOk A_m)) (ev rfl) (fun c24 => ?_) (fun c24 => ?_)
  · rw [Bool.not_eq_true'] at c24
    have c24' := c24
    have hmf : meshOk A_m = false := c24
    refine wp_seq_k fun K25 hK25 => ?_
    refine wp_region_lit ?_
    refine q_is rfl rfl (does_assign (u := (Iv 0)) (ev rfl)) (by dsimp only [List.set]; try rfl) ?_
    refine q_is rfl rfl (does_assign (u := (Bo false)) (ev rfl)) (by dsimp only [List.set]; try rfl) ?_
    refine wpList_nil (hK25 _ _ ?_)
    refine wp_ret ?_
    dsimp only [Exit.then, Exit.inBlock]
    refine ret_val (v := (.tuple #[(Iv 0), (Bo false)])) (res_TT rfl (slot rfl) (slot rfl)) X23 ?_
    have x26 : (eulN A_m : Int) = 0 := by first | exact hmf | exact hmt | exact eulN_f hmf | (rw [eulN_t hmt, hsl])
    have x27 : (meshOk A_m) = false := by first | exact hmf | exact hmt | exact eulN_f hmf | (rw [eulN_t hmt, hsl])
    exact (by first | with_reducible rfl | rw [x26, x27] | rw [x27, x26] | rfl)
  rw [Bool.not_eq_false'] at c24
  have c24' := c24
  have hmt : meshOk A_m = true := c24
  have hml := mesh_len hmt
  refine wp_skip (hK19 _ _ ?_)
  refine wp_seq_k fun K28 hK28 => ?_
  refine wp_region_lit ?_
  refine seqd rfl rfl (does_makeMap (κ := (Int × Int)) (ν := Bool) encP Value.bool okP) ?_; rintro _ w33 ⟨bm29, rfl, hb30, hM31, E32⟩
  have X34 := Ext.gr X23 E32
  have n35 : b12 < bm29 := Nat.lt_of_lt_of_le (Blk.lt (hB14.ext E21)) hb30
  have g36 : w.heap.size ≤ bm29 := Nat.le_trans (Nat.le_trans (Below.size E15) (Below.size E21)) hb30
  show wpList _ _ _ _ (fr [_, _, _, _, _, _, _, _, _, _, _, _, _, _, _, _, _, _, _, _, _, _, _, _, _, _, _, _, _, _, _, _, _, _, _, _, _]) _
  refine q_is rfl rfl (does_assign (u := (.map (some bm29))) (ev rfl)) (by dsimp only [List.set]; try rfl) ?_
  refine wpList_nil (hK28 _ _ ?_)
  refine wp_seq_k fun K37 hK37 => ?_
  refine wp_seq_k fun K38 hK38 => ?_
  refine wp_region_lit ?_
  refine seqd rfl rfl (does_call (args := #[(Pt b12 0)]) cal41 (evs rfl) (c_impl_Mesh_edges b12 0 [(.slice p5 A_m.places.length q6), (.slice p8 A_m.tris.length q9)] A_m _ (Blk.cells ((hB14.ext E21).ext E32)) ⟨(.slice p5 A_m.places.length q6), (.slice p8 A_m.tris.length q9), rfl, (Sl.ext hs7 RV3.mono X34), (Sl.ext hs10 (RS.mono RI.mono) X34)⟩ (by exact hmt))) ?_; rintro _ w40 ⟨E39, ⟨bm41, rfl, hb42, hM43⟩⟩
  have X44 := Ext.gr X34 E39
  have n45 : b12 < bm41 := Nat.lt_of_lt_of_le (Blk.lt ((hB14.ext E21).ext E32)) hb42
  have n46 : bm29 < bm41 := Nat.lt_of_lt_of_le (MapL.lt hM31) hb42
  have g47 : w.heap.size ≤ bm41 := Nat.le_trans (Nat.le_trans (Nat.le_trans (Below.size E15) (Below.size E21)) (Below.size E32)) hb42
  show wpList _ _ _ _ (fr [_, _, _, _, _, _, _, _, _, _, _, _, _, _, _, _, _, _, _, _, _, _, _, _, _, _, _, _, _, _, _, _, _, _, _, _, _]) _
  refine seqd rfl rfl (does_range (l := (edL A_m)) Try.underlying64 (ev rfl) hM43) ?_; rintro _ w52 ⟨bi48, rfl, hb49, hM50, E51⟩
  have X53 := Ext.gr X44 E51
  have n54 : b12 < bi48 := Nat.lt_of_lt_of_le (Blk.lt (((hB14.ext E21).ext E32).ext E39)) hb49
  have n55 : bm29 < bi48 := Nat.lt_of_lt_of_le (MapL.lt (MapL.ext hM31 E39)) hb49
  have n56 : bm41 < bi48 := Nat.lt_of_lt_of_le (MapL.lt hM43) hb49
  have g57 : w.heap.size ≤ bi48 := Nat.le_trans (Nat.le_trans (Nat.le_trans (Nat.le_trans (Below.size E15) (Below.size E21)) (Below.size E32)) (Below.size E39)) hb49
  show wpList _ _ _ _ (fr [_, _, _, _, _, _, _, _, _, _, _, _, _, _, _, _, _, _, _, _, _, _, _, _, _, _, _, _, _, _, _, _, _, _, _, _, _]) _
  refine wpList_nil (hK38 _ _ ?_)
  refine wp_block ?_
  refine loop_ghost (σ := List ((Int × Int) × Int) × List ((Int × Int) × Bool)) (fun s a w' => ∃ u58 : Nat → Value, a = fr [(.agg #[(.slice p5 A_m.places.length q6), (.slice p8 A_m.tris.length q9)]), (Pt b12 0), (Iv 0), (Bo false), (.map (some bm29)), (u58 5), (.agg #[(.slice p5 A_m.places.length q6), (.slice p8 A_m.tris.length q9)]), (Bo (meshOk A_m)), (Bo (!(meshOk A_m))), (.map (some bm29)), (.map (some bm41)), (Pt bi48 0), (u58 12), (u58 13), (u58 14), (u58 15), (u58 16), (u58 17), (u58 18), (u58 19), (u58 20), (u58 21), (u58 22), (u58 23), (u58 24), (u58 25), (u58 26), (u58 27), Ud, Ud, Ud, Ud, Ud, Ud, Ud, Ud, Ud] ∧ KpL [bm29, bi48] w52 w' ∧ MapL encP Value.bool okP w' bm29 s.2 ∧ MapIt encP (Value.int .i64) okP w' bm41 bi48 (edL A_m) s.1 none ∧ ((s.2.map Prod.fst).Nodup ∧ ∀ p, (p ∈ s.2.map Prod.fst ∨ ∃ x ∈ s.1, normP x.1 = p) ↔ ∃ x ∈ edL A_m, normP x.1 = p)) (fun s => s.1.length) (edL A_m, []) ?_ ?_
  · refine ⟨fun t => (([(.agg #[(.slice p5 A_m.places.length q6), (.slice p8 A_m.tris.length q9)]), (Pt b12 0), (Iv 0), (Bo false), (.map (some bm29)), Ud, (.agg #[(.slice p5 A_m.places.length q6), (.slice p8 A_m.tris.length q9)]), (Bo (meshOk A_m)), (Bo (!(meshOk A_m))), (.map (some bm29)), (.map (some bm41)), (Pt bi48 0), Ud, Ud, Ud, Ud, Ud, Ud, Ud, Ud, Ud, Ud, Ud, Ud, Ud, Ud, Ud, Ud, Ud, Ud, Ud, Ud, Ud, Ud, Ud, Ud, Ud] : List Value)[t]?).getD undef, rfl, KpL.refl _ _, (MapL.cast (MapL.ext (MapL.ext hM31 E39) E51) (by (try dsimp only); try rfl)), (MapIt.any hM50), ?_⟩
    exact ⟨List.Pairwise.nil, fun p => by simp⟩
  · rintro s a w59 ⟨u58, rfl, E60, hMp0, hMi0, ⟨hk0, hk⟩⟩
    have X62 := Below.kl X53 E60 (allS g36 (allS g57 all0)) (Nat.le_refl _)
    have hM63 := hMp0; clear hMp0
    have hM64 := hMi0; clear hMi0
    have hel := edL_len A_m
    refine wp_seq_k fun K65 hK65 => ?_
    refine wp_region_lit ?_
    refine seqd rfl rfl (does_next (rest := s.1) (ev rfl) hM64) ?_
    rintro _ w72 (⟨hr66, rfl, hw77⟩ | ⟨⟨⟨q74, q75⟩, q76⟩, As67, Bs68, hAB69, rfl, K70, hM71⟩)
    · obtain rfl : w59 = w72 := hw77.symm
      show wpList _ _ _ _ (fr [_, _, _, _, _, _, _, _, _, _, _, _, _, _, _, _, _, _, _, _, _, _, _, _, _, _, _, _, _, _, _, _, _, _, _, _, _]) _
      refine q_is rfl rfl (does_extract (vs := #[(Bo false)]) (u := (Bo false)) (ev rfl) rfl) (by dsimp only [List.set]; try rfl) ?_
      refine wpList_nil (hK65 _ _ ?_)
      refine wp_seq_k fun K78 hK78 => ?_
      refine wp_cond_false (ev rfl) ?_
      refine wp_exit ?_
      refine hK37 _ _ ?_
      refine wp_seq_k fun K79 hK79 => ?_
      have hul := usedL_le A_m
      have hz : s.1 = [] := by assumption
      have hsl : s.2.length = eulTo (nextL A_m) A_m.places.length := euler_alike hmt hk0 (fun p => by have h := hk p; rw [hz] at h; simpa using h)
      have hnl := nextL_len A_m
      have hot := eulTo_le hmt A_m.places.length (by omega)
      refine region_draw (
        [Fact.mem [] (fun v w' => ∃ y_1 : Value, ∃ Lw_2 : List Nat, v = y_1 ∧ Hang w59.heap.size w' (fun u => Sl RI 1 u y_1 (usedL A_m)) ∧ WL 1 w59.heap.size w' Lw_2 y_1 (usedL A_m).length) (by rintro v w1 w2 hx ⟨z1, z2, rfl, k0, k1⟩; exact ⟨_, _, rfl, (k0.ext hx), (k1.same (Same.of_ext hx))⟩),
    Fact.pure [28] (fun v => v = (Iv (((usedL A_m).length) : Int))),
    Fact.pure [] (fun v => v = (.map (some bm29))),
    Fact.pure [30] (fun v => v = (Iv ((s.2).length : Int))),
    Fact.pure [29, 31] (fun v => v = (Iv ((((usedL A_m).length) : Int) - ((s.2).length : Int)))),
    Fact.pure [] (fun v => v = (Pt b12 1)),
    Fact.pure [33] (fun v => v = (.slice p8 A_m.tris.length q9)),
    Fact.pure [34] (fun v => v = (Iv (A_m.tris.length : Int))),
    Fact.pure [32, 35] (fun v => v = (Iv (((((usedL A_m).length) : Int) - ((s.2).length : Int)) + (A_m.tris.length : Int))))]) mixed (by kernel_rfl) (by intro _ _ d _ _ h; cases d <;> exact h) ?_
      obtain ⟨w80, hw82⟩ : ∃ w', w' = World.drew w59 := ⟨_, rfl⟩; rw [← hw82]; have E81 : Ext w59 w80 := by rw [hw82]; exact Ext.draw _
      clear hw82
      have X83 := Ext.gr X62 E81
      refine RW_d _ rfl (fun v => by dsimp only [List.set]; try rfl) (fun u hu hF => ?_) (fun v84 => ?_)
      · clear hF
        refine doesG_un rfl ?_
        refine (does_call (args := #[(Pt b12 0)]) cal30 (evs rfl) (c_impl_Mesh_used b12 0 [(.slice p5 A_m.places.length q6), (.slice p8 A_m.tris.length q9)] A_m _ (Blk.cells (((((((hB14.ext E21).ext E32).ext E39).ext E51).kl E60 (ninS (Nat.ne_of_lt n35) (ninS (Nat.ne_of_lt n54) nin0))).ext E81).ext hu)) ⟨(.slice p5 A_m.places.length q6), (.slice p8 A_m.tris.length q9), rfl, (Sl.ext (Sl.ext hs7 RV3.mono (Ext.gr X62 E81)) RV3.mono hu), (Sl.ext (Sl.ext hs10 (RS.mono RI.mono) (Ext.gr X62 E81)) (RS.mono RI.mono) hu)⟩ (by exact hmt))).mono ?_; rintro v u' ⟨hx, ⟨yn1, Lwn2, hv, k0, k1⟩⟩
        exact ⟨⟨yn1, Lwn2, hv, (Hang.le k0 (Nat.le_trans (Below.size E81) (Below.size hu))), (WL.le k1 (Nat.le_trans (Below.size E81) (Below.size hu)))⟩, hx⟩
      refine RW_d _ rfl (fun v => by dsimp only [List.set]; try rfl) (fun u hu hF => ?_) (fun v85 => ?_)
      · have h28_ : ∃ y_1 : Value, ∃ Lw_2 : List Nat, v84 = y_1 ∧ Hang w59.heap.size u (fun u => Sl RI 1 u y_1 (usedL A_m)) ∧ WL 1 w59.heap.size u Lw_2 y_1 (usedL A_m).length := hF.1
        clear hF
        refine doesG_un rfl ?_
        obtain ⟨y28_2, Lw28_3, rfl, hh28_1, hw28_4⟩ := h28_
        have ghh28_1 := hh28_1.get
        have hghh28_1 := ghh28_1; obtain ⟨p28_5, q28_6, rfl⟩ := Sl.shape ghh28_1
        refine (does_len_slice Try.underlying27 (ev rfl)).mono ?_; rintro _ _ ⟨rfl, rfl⟩
        exact ⟨rfl, Ext.refl _⟩
      refine RW_d _ rfl (fun v => by dsimp only [List.set]; try rfl) (fun u hu hF => ?_) (fun v86 => ?_)
      · clear hF
        refine doesG_un rfl ?_
        refine (does_move (u := (.map (some bm29))) (ev rfl)).mono ?_; rintro _ _ ⟨rfl, rfl⟩
        exact ⟨rfl, Ext.refl _⟩
      refine RW_d _ rfl (fun v => by dsimp only [List.set]; try rfl) (fun u hu hF => ?_) (fun v87 => ?_)
      · have h30_ : v86 = (.map (some bm29)) := hF.1
        clear hF
        refine doesG_un rfl ?_
        obtain rfl := h30_
        refine (does_lenMap (l := s.2) Try.underlying63 (ev rfl) (MapL.ext (MapL.ext hM63 E81) hu)).mono ?_; rintro _ _ ⟨rfl, rfl⟩
        exact ⟨rfl, Ext.refl _⟩
      refine RW_d _ rfl (fun v => by dsimp only [List.set]; try rfl) (fun u hu hF => ?_) (fun v88 => ?_)
      · have h29_ : v85 = (Iv (((usedL A_m).length) : Int)) := hF.1
        have h31_ : v87 = (Iv ((s.2).length : Int)) := hF.2.1
        clear hF
        refine doesG_un rfl ?_
        obtain rfl := h29_
        obtain rfl := h31_
        refine (does_iarith (p := (((usedL A_m).length) : Int)) (q := ((s.2).length : Int)) (r := (((usedL A_m).length) : Int) - ((s.2).length : Int)) (ev rfl) (ev rfl) (.inr (.inl ⟨rfl, (in_i64 (by omega) (by omega)).symm⟩))).mono ?_; rintro _ _ ⟨rfl, rfl⟩
        exact ⟨rfl, Ext.refl _⟩
      refine RW_d _ rfl (fun v => by dsimp only [List.set]; try rfl) (fun u hu hF => ?_) (fun v89 => ?_)
      · clear hF
        refine doesG_un rfl ?_
        refine (does_fieldAddr (ev rfl) fa32_1).mono ?_; rintro _ _ ⟨rfl, rfl⟩
        exact ⟨rfl, Ext.refl _⟩
      refine RW_d _ rfl (fun v => by dsimp only [List.set]; try rfl) (fun u hu hF => ?_) (fun v90 => ?_)
      · have h33_ : v89 = (Pt b12 1) := hF.1
        clear hF
        refine doesG_un rfl ?_
        obtain rfl := h33_
        refine (does_load (u := (.slice p8 A_m.tris.length q9)) (ev rfl) Try.isAgg23 (Cells.at (Blk.cells (((((((hB14.ext E21).ext E32).ext E39).ext E51).kl E60 (ninS (Nat.ne_of_lt n35) (ninS (Nat.ne_of_lt n54) nin0))).ext E81).ext hu)) 1 rfl)).mono ?_; rintro _ _ ⟨rfl, rfl⟩
        exact ⟨rfl, Ext.refl _⟩
      refine RW_d _ rfl (fun v => by dsimp only [List.set]; try rfl) (fun u hu hF => ?_) (fun v91 => ?_)
      · have h34_ : v90 = (.slice p8 A_m.tris.length q9) := hF.1
        clear hF
        refine doesG_un rfl ?_
        obtain rfl := h34_
        refine (does_len_slice Try.underlying23 (ev rfl)).mono ?_; rintro _ _ ⟨rfl, rfl⟩
        exact ⟨rfl, Ext.refl _⟩
      refine RW_d _ rfl (fun v => by dsimp only [List.set]; try rfl) (fun u hu hF => ?_) (fun v92 => ?_)
      · have h32_ : v88 = (Iv ((((usedL A_m).length) : Int) - ((s.2).length : Int))) := hF.1
        have h35_ : v91 = (Iv (A_m.tris.length : Int)) := hF.2.1
        clear hF
        refine doesG_un rfl ?_
        obtain rfl := h32_
        obtain rfl := h35_
        refine (does_iarith (p := (((usedL A_m).length) : Int) - ((s.2).length : Int)) (q := (A_m.tris.length : Int)) (r := ((((usedL A_m).length) : Int) - ((s.2).length : Int)) + (A_m.tris.length : Int)) (ev rfl) (ev rfl) (.inl ⟨rfl, (in_i64 (by omega) (by omega)).symm⟩)).mono ?_; rintro _ _ ⟨rfl, rfl⟩
        exact ⟨rfl, Ext.refl _⟩
      refine RW_fin ?_; intro w93 E94 hP95
      obtain ⟨⟨⟨⟨⟨⟨⟨⟨⟨-, -⟩, -⟩, -⟩, -⟩, -⟩, -⟩, -⟩, -⟩, q96⟩ := hP95
      have X97 := Ext.gr X83 E94
      have q96 : v92 = (Iv (((((usedL A_m).length) : Int) - ((s.2).length : Int)) + (A_m.tris.length : Int))) := q96
      obtain rfl := q96
      show wpList _ _ _ _ (fr [_, _, _, _, _, _, _, _, _, _, _, _, _, _, _, _, _, _, _, _, _, _, _, _, _, _, _, _, _, _, _, _, _, _, _, _, _]) _
      refine q_is rfl rfl (does_assign (u := (Iv (((((usedL A_m).length) : Int) - ((s.2).length : Int)) + (A_m.tris.length : Int)))) (ev rfl)) (by dsimp only [List.set]; try rfl) ?_
      refine q_is rfl rfl (does_assign (u := (Bo true)) (ev rfl)) (by dsimp only [List.set]; try rfl) ?_
      refine wpList_nil (hK79 _ _ ?_)
      refine wp_ret ?_
      refine ret_val (v := (.tuple #[(Iv (((((usedL A_m).length) : Int) - ((s.2).length : Int)) + (A_m.tris.length : Int))), (Bo true)])) (res_TT rfl (slot rfl) (slot rfl)) X97 ?_
      have x98 : (eulN A_m : Int) = (((((usedL A_m).length) : Int) - ((s.2).length : Int)) + (A_m.tris.length : Int)) := by first | exact hmf | exact hmt | exact eulN_f hmf | (rw [eulN_t hmt, hsl])
      have x99 : (meshOk A_m) = true := by first | exact hmf | exact hmt | exact eulN_f hmf | (rw [eulN_t hmt, hsl])
      exact (by first | with_reducible rfl | rw [x98, x99] | rw [x99, x98] | rfl)
    have hqk := (MapIt.okr (q := ((q74, q75), q76)) hM64 (by rw [hAB69]; simp)).1
    have X100 := Below.kl X62 K70 (allS g57 all0) (Nat.le_refl _)
    show wpList _ _ _ _ (fr [_, _, _, _, _, _, _, _, _, _, _, _, _, _, _, _, _, _, _, _, _, _, _, _, _, _, _, _, _, _, _, _, _, _, _, _, _]) _
    refine q_is rfl rfl (does_extract (vs := #[(Bo true), (.agg #[(Iv q74), (Iv q75)]), (Iv q76)]) (u := (Bo true)) (ev rfl) rfl) (by dsimp only [List.set]; try rfl) ?_
    refine wpList_nil (hK65 _ _ ?_)
    refine wp_seq_k fun K101 hK101 => ?_
    refine wp_cond_true (ev rfl) ?_
    refine wp_skip (hK101 _ _ ?_)
    refine wp_block ?_
    refine wp_seq_k fun K102 hK102 => ?_
    refine wp_region_lit ?_
    refine q_is rfl rfl (does_entry (q := ((q74, q75), q76)) (ev rfl) hM71) (by dsimp only [List.set]; try rfl) ?_
    refine q_is rfl rfl (does_extract (vs := #[(.agg #[(Iv q74), (Iv q75)]), (Iv q76)]) (u := (.agg #[(Iv q74), (Iv q75)])) (ev rfl) rfl) (by dsimp only [List.set]; try rfl) ?_
    refine seqd rfl rfl (does_alloc z66) ?_; rintro _ w107 ⟨b103, rfl, hb104, hB105, E106⟩
    have n108 : b12 < b103 := Nat.lt_of_lt_of_le (Blk.lt ((((((hB14.ext E21).ext E32).ext E39).ext E51).kl E60 (ninS (Nat.ne_of_lt n35) (ninS (Nat.ne_of_lt n54) nin0))).kl K70 (ninS (Nat.ne_of_lt n54) nin0))) hb104
    have n109 : bm29 < b103 := Nat.lt_of_lt_of_le (MapL.lt (MapL.kl hM63 K70 (ninS (Nat.ne_of_lt n55) nin0))) hb104
    have n110 : bi48 < b103 := Nat.lt_of_lt_of_le (MapIt.lt hM71) hb104
    have g111 : w.heap.size ≤ b103 := Nat.le_trans (Below.size X100) hb104
    change Blk _ _ [(Iv 0), (Iv 0)] at hB105
    have X112 := Ext.gr X100 E106
    show wpList _ _ _ _ (fr [_, _, _, _, _, _, _, _, _, _, _, _, _, _, _, _, _, _, _, _, _, _, _, _, _, _, _, _, _, _, _, _, _, _, _, _, _]) _
    refine seqn rfl rfl (does_store (n := 2) (cs := [(Iv 0), (Iv 0)]) (u := (.agg #[(Iv q74), (Iv q75)])) (ev rfl) (ev rfl) Try.sizeOf66 rfl hB105 (Nat.le_of_ble_eq_true rfl) rfl) ?_; rintro _ w115 ⟨rfl, W113, hB114⟩
    change Blk _ _ [(Iv q74), (Iv q75)] at hB114
    have X116 := Below.wr X112 W113 g111
    refine wpList_nil (hK102 _ _ ?_)
    refine wp_region_lit ?_
    refine q_is rfl rfl (does_move (u := (.map (some bm29))) (ev rfl)) (by dsimp only [List.set]; try rfl) ?_
    refine q_is rfl rfl (does_indexAt_run (r := (Pt b103 0)) (ev rfl) (ev rfl) (fun w => ia66_0 _ _ w)) (by dsimp only [List.set]; try rfl) ?_
    refine q_is rfl rfl (does_load (u := (Iv q74)) (ev rfl) Try.isAgg2 (Cells.at (Blk.cells hB114) 0 rfl)) (by dsimp only [List.set]; try rfl) ?_
    refine q_is rfl rfl (does_indexAt_run (r := (Pt b103 1)) (ev rfl) (ev rfl) (fun w => ia66_1 _ _ w)) (by dsimp only [List.set]; try rfl) ?_
    refine q_is rfl rfl (does_load (u := (Iv q75)) (ev rfl) Try.isAgg2 (Cells.at (Blk.cells hB114) 1 rfl)) (by dsimp only [List.set]; try rfl) ?_
    refine q_is rfl rfl (does_min (p := q74) (q := q75) Try.underlying2 (ev rfl) (ev rfl)) (by dsimp only [List.set]; try rfl) ?_
    refine q_is rfl rfl (does_indexAt_run (r := (Pt b103 0)) (ev rfl) (ev rfl) (fun w => ia66_0 _ _ w)) (by dsimp only [List.set]; try rfl) ?_
    refine q_is rfl rfl (does_load (u := (Iv q74)) (ev rfl) Try.isAgg2 (Cells.at (Blk.cells hB114) 0 rfl)) (by dsimp only [List.set]; try rfl) ?_
    refine q_is rfl rfl (does_indexAt_run (r := (Pt b103 1)) (ev rfl) (ev rfl) (fun w => ia66_1 _ _ w)) (by dsimp only [List.set]; try rfl) ?_
    refine q_is rfl rfl (does_load (u := (Iv q75)) (ev rfl) Try.isAgg2 (Cells.at (Blk.cells hB114) 1 rfl)) (by dsimp only [List.set]; try rfl) ?_
    refine q_is rfl rfl (does_max (p := q74) (q := q75) Try.underlying2 (ev rfl) (ev rfl)) (by dsimp only [List.set]; try rfl) ?_
    refine q_is rfl rfl (does_build (parts' := [(0, (Iv (min q74 q75))), (1, (Iv (max q74 q75)))]) (cells := #[(Iv (min q74 q75)), (Iv (max q74 q75))]) (evp rfl) (by kernel_rfl)) (by dsimp only [List.set]; try rfl) ?_
    refine seqn rfl rfl (does_mapUpdate (l := s.2) (p := ((min q74 q75), (max q74 q75))) (v := true) kE66 Try.underlying63 (ev rfl) (ev rfl) (ev rfl) (MapL.kl (MapL.ext (MapL.kl hM63 K70 (ninS (Nat.ne_of_lt n55) nin0)) E106) (KpL.of_wr W113) (ninS (Nat.ne_of_lt n109) nin0)) (by (obtain ⟨hq0, hq1, hq2, hq3⟩ := hqk; dsimp only at hq0 hq1 hq2 hq3; refine ⟨?_, ?_, ?_, ?_⟩ <;> (try dsimp only) <;> omega))) ?_; rintro _ w119 ⟨rfl, K117, hM118⟩
    have X120 := Below.kl X116 K117 (allS g36 all0) (Nat.le_refl _)
    show wpList _ _ _ _ (fr [_, _, _, _, _, _, _, _, _, _, _, _, _, _, _, _, _, _, _, _, _, _, _, _, _, _, _, _, _, _, _, _, _, _, _, _, _]) _
    refine wpList_nil ?_
    have hM121 := MapL.cast (l' := ((fun (s : List ((Int × Int) × Int) × List ((Int × Int) × Bool)) => s.2) (As67 ++ Bs68, putM s.2 (normP (q74, q75)) true))) hM118 (by (try dsimp only); try rfl)
    refine ⟨(As67 ++ Bs68, putM s.2 (normP (q74, q75)) true), ⟨fun t => (([(.agg #[(.slice p5 A_m.places.length q6), (.slice p8 A_m.tris.length q9)]), (Pt b12 0), (Iv 0), (Bo false), (.map (some bm29)), (Pt b103 0), (.agg #[(.slice p5 A_m.places.length q6), (.slice p8 A_m.tris.length q9)]), (Bo (meshOk A_m)), (Bo (!(meshOk A_m))), (.map (some bm29)), (.map (some bm41)), (Pt bi48 0), (.tuple #[(Bo true), (.agg #[(Iv q74), (Iv q75)]), (Iv q76)]), (Bo true), (.tuple #[(.agg #[(Iv q74), (Iv q75)]), (Iv q76)]), (.agg #[(Iv q74), (Iv q75)]), (.map (some bm29)), (Pt b103 0), (Iv q74), (Pt b103 1), (Iv q75), (Iv (min q74 q75)), (Pt b103 0), (Iv q74), (Pt b103 1), (Iv q75), (Iv (max q74 q75)), (.agg #[(Iv (min q74 q75)), (Iv (max q74 q75))]), Ud, Ud, Ud, Ud, Ud, Ud, Ud, Ud, Ud] : List Value)[t]?).getD undef, ?_, (KpL.more (KpL.more (KpL.ext (KpL.more E60 K70 (allS (.inl (by simp)) all0)) E106) (KpL.of_wr W113) (allS (.inr (Nat.le_trans (KpL.more E60 K70 (allS (.inl (by simp)) all0)).size hb104)) all0)) K117 (allS (.inl (by simp)) all0)), hM121, (MapIt.any (MapIt.kl (MapIt.kl (MapIt.ext hM71 E106) (KpL.of_wr W113) (ninS (by omega) nin0) (ninS (Nat.ne_of_lt n110) nin0)) K117 (ninS (Nat.ne_of_gt n46) nin0) (ninS (Nat.ne_of_gt n55) nin0))), ?_⟩, ?_⟩
    · first | rfl | (simp only [Int.natCast_add, Int.natCast_one]; rfl)
    · (try dsimp only); (rw [hAB69] at hk; exact eul_step hk0 hk)
    · (rw [hAB69]; simp only [List.length_append, List.length_cons]; omega)

/- laws.FnExactEulerOf -/
theorem c_laws_FnExactEulerOf (m : List Value) (A_m : MeshT) (w : World) (hv_m : RMeshT w A_m m) : Gives Try.prog 5 #[(.agg m.toArray)] w (fun v w' => v = (Bo true)) := by
  obtain ⟨y1, y3, rfl, h2, h4⟩ := hv_m
  have hs7 := h2; have hs7l := Sl.len h2; obtain ⟨p5, q6, rfl⟩ := Sl.shape h2
  have hs10 := h4; have hs10l := Sl.len h4; obtain ⟨p8, q9, rfl⟩ := Sl.shape h4
  refine enter [(.agg #[(.slice p5 A_m.places.length q6), (.slice p8 A_m.tris.length q9)]), Ud, Ud, Ud, Ud, Ud, Ud, Ud, Ud, Ud, Ud, Ud, Ud, Ud, Ud, Ud, Ud, Ud, Ud, Ud, Ud, Ud, Ud, Ud, Ud, Ud, Ud, Ud, Ud, Ud, Ud, Ud, Ud, Ud, Ud, Ud, Ud, Ud, Ud, Ud] Try.func5 rfl Try.ntmps5 rfl ?_
  refine wp_seq_k fun K11 hK11 => ?_
  refine wp_region_lit ?_
  refine seqd rfl rfl (does_box (u := (.agg #[(.slice p5 A_m.places.length q6), (.slice p8 A_m.tris.length q9)])) (ev rfl)) ?_; rintro _ w16 ⟨b12, rfl, hb13, hB14, E15⟩
  have g17 : w.heap.size ≤ b12 := Nat.le_trans (Below.size (Ext.refl w)) hb13
  change Blk _ _ [(.slice p5 A_m.places.length q6), (.slice p8 A_m.tris.length q9)] at hB14
  have X18 := Ext.gr (Ext.refl w) E15
  show wpList _ _ _ _ (fr [_, _, _, _, _, _, _, _, _, _, _, _, _, _, _, _, _, _, _, _, _, _, _, _, _, _, _, _, _, _, _, _, _, _, _, _, _, _, _, _]) _
  refine q_is rfl rfl (does_assign (u := (Bo false)) (ev rfl)) (by dsimp only [List.set]; try rfl) ?_
  refine wpList_nil (hK11 _ _ ?_)
  refine wp_seq_k fun K19 hK19 => ?_
  refine wp_region_lit ?_
  refine q_is rfl rfl (does_assign (u := (Iv 1048576)) (ev rfl)) (by dsimp only [List.set]; try rfl) ?_
  refine wpList_nil (hK19 _ _ ?_)
  refine wp_seq_k fun K20 hK20 => ?_
  refine wp_region_lit ?_
  refine q_is rfl rfl (does_loadAgg (cs := [(.slice p5 A_m.places.length q6), (.slice p8 A_m.tris.length q9)]) (ev rfl) Try.isAgg25 Try.sizeOf25 (Blk.cells hB14) rfl) (by dsimp only [List.set]; try rfl) ?_
  refine q_is rfl rfl (does_move (u := (Iv 1048576)) (ev rfl)) (by dsimp only [List.set]; try rfl) ?_
  refine seqd rfl rfl (does_call (args := #[(.agg #[(.slice p5 A_m.places.length q6), (.slice p8 A_m.tris.length q9)]), (Iv 1048576)]) cal7 (evs rfl) (c_laws_szMesh [(.slice p5 A_m.places.length q6), (.slice p8 A_m.tris.length q9)] A_m 1048576 _ ⟨(.slice p5 A_m.places.length q6), (.slice p8 A_m.tris.length q9), rfl, (Sl.ext hs7 RV3.mono X18), (Sl.ext hs10 (RS.mono RI.mono) X18)⟩ (by omega) (by omega))) ?_; rintro _ w22 ⟨E21, ⟨i23, rfl, h24⟩⟩
  have X25 := Ext.gr X18 E21
  show wpList _ _ _ _ (fr [_, _, _, _, _, _, _, _, _, _, _, _, _, _, _, _, _, _, _, _, _, _, _, _, _, _, _, _, _, _, _, _, _, _, _, _, _, _, _, _]) _
  refine q_is rfl rfl (does_assign (u := (Iv i23)) (ev rfl)) (by dsimp only [List.set]; try rfl) ?_
  refine wpList_nil (hK20 _ _ ?_)
  refine wp_seq_k fun K26 hK26 => ?_
  refine wp_seq_k fun K27 hK27 => ?_
  refine wp_region_lit ?_
  refine q_is rfl rfl (does_move (u := (Iv i23)) (ev rfl)) (by dsimp only [List.set]; try rfl) ?_
  refine q_is rfl rfl (does_icmp (p := i23) (q := 0) (.inr (.inr (.inl rfl))) (ev rfl) (ev rfl)) (by dsimp only [List.set]; try rfl) ?_
  refine wpList_nil (hK27 _ _ ?_)
  refine wp_cond_split (t := icmp .lss i23 0) (ev rfl) (fun c28 => ?_) (fun c28 => ?_)
  · have c28' := c28
    (try simp only [sameMesh_self, bne_self_eq_false] at c28')
    (try simp only [icmp, Bool.and_eq_true, Bool.or_eq_true, Bool.and_eq_false_iff, Bool.or_eq_false_iff, Bool.not_eq_true', Bool.not_eq_false', decide_eq_true_eq, decide_eq_false_iff_not, beq_iff_eq, bne_iff_ne, beq_eq_false_iff_ne, bne_eq_false_iff_eq] at c28')
    refine wp_seq_k fun K29 hK29 => ?_
    refine wp_region_lit ?_
    refine q_is rfl rfl (does_assign (u := (Bo true)) (ev rfl)) (by dsimp only [List.set]; try rfl) ?_
    refine wpList_nil (hK29 _ _ ?_)
    refine wp_ret ?_
    dsimp only [Exit.then, Exit.inBlock]
    refine ret_val (v := (Bo true)) (res_T rfl (slot rfl)) X25 ?_
    try simp only [sameMesh_self, bne_self_eq_false] at c28
    exact rfl
  have c28' := c28
  (try simp only [sameMesh_self, bne_self_eq_false] at c28')
  (try simp only [icmp, Bool.and_eq_true, Bool.or_eq_true, Bool.and_eq_false_iff, Bool.or_eq_false_iff, Bool.not_eq_true', Bool.not_eq_false', decide_eq_true_eq, decide_eq_false_iff_not, beq_iff_eq, bne_iff_ne, beq_eq_false_iff_ne, bne_eq_false_iff_eq] at c28')
  refine wp_skip (hK26 _ _ ?_)
  refine wp_seq_k fun K30 hK30 => ?_
  refine wp_region_lit ?_
  refine q_is rfl rfl (does_loadAgg (cs := [(.slice p5 A_m.places.length q6), (.slice p8 A_m.tris.length q9)]) (ev rfl) Try.isAgg25 Try.sizeOf25 (Blk.cells (hB14.ext E21)) rfl) (by dsimp only [List.set]; try rfl) ?_
  refine seqd rfl rfl (does_call (args := #[(.agg #[(.slice p5 A_m.places.length q6), (.slice p8 A_m.tris.length q9)])]) cal9 (evs rfl) (c_laws_toMesh [(.slice p5 A_m.places.length q6), (.slice p8 A_m.tris.length q9)] A_m _ ⟨(.slice p5 A_m.places.length q6), (.slice p8 A_m.tris.length q9), rfl, (Sl.ext hs7 RV3.mono X25), (Sl.ext hs10 (RS.mono RI.mono) X25)⟩ (by omega))) ?_; rintro _ w32 ⟨E31, ⟨cs34, Lw35, rfl, hh33, hw36⟩⟩
  have X37 := Ext.gr X25 E31
  have n38 : b12 < w22.heap.size := Blk.lt (hB14.ext E21)
  obtain ⟨y39, y41, rfl, h40, h42⟩ := hh33.get
  have h40l := Sl.len h40; obtain ⟨p43, q44, rfl⟩ := Sl.shape h40
  have hh45 : Hang w22.heap.size w32 (fun u => Sl RV3 3 u (.slice p43 A_m.places.length q44) A_m.places) := fun u hu => by obtain ⟨_, _, hq, _, _⟩ := hh33 u hu; cases hq; assumption
  have h42l := Sl.len h42; obtain ⟨p46, q47, rfl⟩ := Sl.shape h42
  have hh48 : Hang w22.heap.size w32 (fun u => Sl (RS RI 1) 1 u (.slice p46 A_m.tris.length q47) A_m.tris) := fun u hu => by obtain ⟨_, _, hq, _, _⟩ := hh33 u hu; cases hq; assumption
  have hw49 : WLM w22.heap.size w32 Lw35 (.slice p43 A_m.places.length q44) (.slice p46 A_m.tris.length q47) A_m := hw36
  show wpList _ _ _ _ (fr [_, _, _, _, _, _, _, _, _, _, _, _, _, _, _, _, _, _, _, _, _, _, _, _, _, _, _, _, _, _, _, _, _, _, _, _, _, _, _, _]) _
  refine seqd rfl rfl (does_call (args := #[(.agg #[(.slice p43 A_m.places.length q44), (.slice p46 A_m.tris.length q47)])]) cal19 (evs rfl) (c_spec_EulerOf [(.slice p43 A_m.places.length q44), (.slice p46 A_m.tris.length q47)] A_m _ ⟨(.slice p43 A_m.places.length q44), (.slice p46 A_m.tris.length q47), rfl, hh45.get, hh48.get⟩)) ?_; rintro _ w51 ⟨E50, rfl⟩
  have X52 := Ext.gr X37 E50
  show wpList _ _ _ _ (fr [_, _, _, _, _, _, _, _, _, _, _, _, _, _, _, _, _, _, _, _, _, _, _, _, _, _, _, _, _, _, _, _, _, _, _, _, _, _, _, _]) _
  refine q_is rfl rfl (does_move (u := (.tuple #[(Iv (eulN A_m)), (Bo (meshOk A_m))])) (ev rfl)) (by dsimp only [List.set]; try rfl) ?_
  refine q_is rfl rfl (does_extract (vs := #[(Iv (eulN A_m)), (Bo (meshOk A_m))]) (u := (Iv (eulN A_m))) (ev rfl) rfl) (by dsimp only [List.set]; try rfl) ?_
  refine q_is rfl rfl (does_extract (vs := #[(Iv (eulN A_m)), (Bo (meshOk A_m))]) (u := (Bo (meshOk A_m))) (ev rfl) rfl) (by dsimp only [List.set]; try rfl) ?_
  refine q_is rfl rfl (does_assign (u := (Iv (eulN A_m))) (ev rfl)) (by dsimp only [List.set]; try rfl) ?_
  refine q_is rfl rfl (does_assign (u := (Bo (meshOk A_m))) (ev rfl)) (by dsimp only [List.set]; try rfl) ?_
  refine wpList_nil (hK30 _ _ ?_)
  refine wp_seq_k fun K53 hK53 => ?_
  refine wp_region_lit ?_
  refine q_is rfl rfl (does_loadAgg (cs := [(.slice p5 A_m.places.length q6), (.slice p8 A_m.tris.length q9)]) (ev rfl) Try.isAgg25 Try.sizeOf25 (Blk.cells (((hB14.ext E21).ext E31).ext E50)) rfl) (by dsimp only [List.set]; try rfl) ?_
  refine seqd rfl rfl (does_call (args := #[(.agg #[(.slice p5 A_m.places.length q6), (.slice p8 A_m.tris.length q9)])]) cal9 (evs rfl) (c_laws_toMesh [(.slice p5 A_m.places.length q6), (.slice p8 A_m.tris.length q9)] A_m _ ⟨(.slice p5 A_m.places.length q6), (.slice p8 A_m.tris.length q9), rfl, (Sl.ext hs7 RV3.mono X52), (Sl.ext hs10 (RS.mono RI.mono) X52)⟩ (by omega))) ?_; rintro _ w55 ⟨E54, ⟨cs57, Lw58, rfl, hh56, hw59⟩⟩
  have X60 := Ext.gr X52 E54
  have n61 : b12 < w51.heap.size := Blk.lt (((hB14.ext E21).ext E31).ext E50)
  obtain ⟨y62, y64, rfl, h63, h65⟩ := hh56.get
  have h63l := Sl.len h63; obtain ⟨p66, q67, rfl⟩ := Sl.shape h63
  have hh68 : Hang w51.heap.size w55 (fun u => Sl RV3 3 u (.slice p66 A_m.places.length q67) A_m.places) := fun u hu => by obtain ⟨_, _, hq, _, _⟩ := hh56 u hu; cases hq; assumption
  have h65l := Sl.len h65; obtain ⟨p69, q70, rfl⟩ := Sl.shape h65
  have hh71 : Hang w51.heap.size w55 (fun u => Sl (RS RI 1) 1 u (.slice p69 A_m.tris.length q70) A_m.tris) := fun u hu => by obtain ⟨_, _, hq, _, _⟩ := hh56 u hu; cases hq; assumption
  have hw72 : WLM w51.heap.size w55 Lw58 (.slice p66 A_m.places.length q67) (.slice p69 A_m.tris.length q70) A_m := hw59
  show wpList _ _ _ _ (fr [_, _, _, _, _, _, _, _, _, _, _, _, _, _, _, _, _, _, _, _, _, _, _, _, _, _, _, _, _, _, _, _, _, _, _, _, _, _, _, _]) _
  refine seqd rfl rfl (does_alloc z32) ?_; rintro _ w77 ⟨b73, rfl, hb74, hB75, E76⟩
  have n78 : b12 < b73 := Nat.lt_of_lt_of_le (Blk.lt ((((hB14.ext E21).ext E31).ext E50).ext E54)) hb74
  have g79 : w.heap.size ≤ b73 := Nat.le_trans (Below.size X60) hb74
  change Blk _ _ [(.slice none 0 0), (.slice none 0 0)] at hB75
  have X80 := Ext.gr X60 E76
  show wpList _ _ _ _ (fr [_, _, _, _, _, _, _, _, _, _, _, _, _, _, _, _, _, _, _, _, _, _, _, _, _, _, _, _, _, _, _, _, _, _, _, _, _, _, _, _]) _
  refine seqn rfl rfl (does_store (n := 2) (cs := [(.slice none 0 0), (.slice none 0 0)]) (u := (.agg #[(.slice p66 A_m.places.length q67), (.slice p69 A_m.tris.length q70)])) (ev rfl) (ev rfl) Try.sizeOf32 rfl hB75 (Nat.le_of_ble_eq_true rfl) rfl) ?_; rintro _ w83 ⟨rfl, W81, hB82⟩
  change Blk _ _ [(.slice p66 A_m.places.length q67), (.slice p69 A_m.tris.length q70)] at hB82
  have X84 := Below.wr X80 W81 g79
  refine wpList_nil (hK53 _ _ ?_)
  refine wp_seq_k fun K85 hK85 => ?_
  refine wp_region_lit ?_
  refine q_is rfl rfl (does_loadAgg (cs := [(.slice p66 A_m.places.length q67), (.slice p69 A_m.tris.length q70)]) (ev rfl) Try.isAgg32 Try.sizeOf32 (Blk.cells hB82) rfl) (by dsimp only [List.set]; try rfl) ?_
  refine seqd rfl rfl (does_call (args := #[(.agg #[(.slice p66 A_m.places.length q67), (.slice p69 A_m.tris.length q70)])]) cal20 (evs rfl) (c_impl_EulerOf [(.slice p66 A_m.places.length q67), (.slice p69 A_m.tris.length q70)] A_m _ ⟨(.slice p66 A_m.places.length q67), (.slice p69 A_m.tris.length q70), rfl, (hh68 _ (((Same.refl _ _).ext E76).wr W81 (.inr (Nat.le_trans (Nat.le_refl _) hb74)))), (hh71 _ (((Same.refl _ _).ext E76).wr W81 (.inr (Nat.le_trans (Nat.le_refl _) hb74))))⟩)) ?_; rintro _ w87 ⟨E86, rfl⟩
  have X88 := Ext.gr X84 E86
  show wpList _ _ _ _ (fr [_, _, _, _, _, _, _, _, _, _, _, _, _, _, _, _, _, _, _, _, _, _, _, _, _, _, _, _, _, _, _, _, _, _, _, _, _, _, _, _]) _
  refine q_is rfl rfl (does_move (u := (.tuple #[(Iv (eulN A_m)), (Bo (meshOk A_m))])) (ev rfl)) (by dsimp only [List.set]; try rfl) ?_
  refine q_is rfl rfl (does_extract (vs := #[(Iv (eulN A_m)), (Bo (meshOk A_m))]) (u := (Iv (eulN A_m))) (ev rfl) rfl) (by dsimp only [List.set]; try rfl) ?_
  refine q_is rfl rfl (does_extract (vs := #[(Iv (eulN A_m)), (Bo (meshOk A_m))]) (u := (Bo (meshOk A_m))) (ev rfl) rfl) (by dsimp only [List.set]; try rfl) ?_
  refine q_is rfl rfl (does_assign (u := (Iv (eulN A_m))) (ev rfl)) (by dsimp only [List.set]; try rfl) ?_
  refine q_is rfl rfl (does_assign (u := (Bo (meshOk A_m))) (ev rfl)) (by dsimp only [List.set]; try rfl) ?_
  refine wpList_nil (hK85 _ _ ?_)
  refine wp_seq_k fun K89 hK89 => ?_
  refine wp_seq_k fun K90 hK90 => ?_
  obtain ⟨β1, hβ1⟩ : ∃ b : Bool, b = (icmp .neq (eulN A_m) (eulN A_m)) := ⟨_, rfl⟩
  obtain ⟨β2, hβ2⟩ : ∃ b : Bool, b = ((meshOk A_m) != (meshOk A_m)) := ⟨_, rfl⟩
  refine region_text (
    [Fact.pure [] (fun v => v = (Iv (eulN A_m))),
    Fact.pure [] (fun v => v = (Iv (eulN A_m))),
    Fact.pure [27, 28] (fun v => v = (Bo β1)),
    Fact.pure [29] (fun v => v = (Bo β1)),
    Fact.pure [30] (fun v => β1 = false → v = (Bo (meshOk A_m))),
    Fact.pure [30] (fun v => β1 = false → v = (Bo (meshOk A_m))),
    Fact.pure [31, 32, 30] (fun v => β1 = false → v = (Bo β2)),
    Fact.pure [30, 33] (fun v => v = (Bo (β1 || β2)))]) (by simp [Fact.pure, Fact.mem]) ?_
  refine RW_d _ rfl (fun v => by dsimp only [List.set]; try rfl) (fun u hu hF => ?_) (fun v91 => ?_)
  · clear hF
    refine doesG_un rfl ?_
    refine (does_move (u := (Iv (eulN A_m))) (ev rfl)).mono ?_; rintro _ _ ⟨rfl, rfl⟩
    exact ⟨rfl, Ext.refl _⟩
  refine RW_d _ rfl (fun v => by dsimp only [List.set]; try rfl) (fun u hu hF => ?_) (fun v92 => ?_)
  · clear hF
    refine doesG_un rfl ?_
    refine (does_move (u := (Iv (eulN A_m))) (ev rfl)).mono ?_; rintro _ _ ⟨rfl, rfl⟩
    exact ⟨rfl, Ext.refl _⟩
  refine RW_d _ rfl (fun v => by dsimp only [List.set]; try rfl) (fun u hu hF => ?_) (fun v93 => ?_)
  · have h27_ : v91 = (Iv (eulN A_m)) := hF.1
    have h28_ : v92 = (Iv (eulN A_m)) := hF.2.1
    clear hF
    refine doesG_un rfl ?_
    obtain rfl := h27_
    obtain rfl := h28_
    refine (does_icmp (p := eulN A_m) (q := eulN A_m) (.inr (.inl rfl)) (ev rfl) (ev rfl)).mono ?_; rintro _ _ ⟨rfl, rfl⟩
    exact ⟨(by first | rfl | (show _ = _; simp only [hβ1]; done) | (show _ = _; simp only [hβ1]; rfl)), Ext.refl _⟩
  refine RW_d _ rfl (fun v => by dsimp only [List.set]; try rfl) (fun u hu hF => ?_) (fun v94 => ?_)
  · have h29_ : v93 = (Bo β1) := hF.1
    clear hF
    refine doesG_un rfl ?_
    obtain rfl := h29_
    refine (does_move (u := (Bo β1)) (ev rfl)).mono ?_; rintro _ _ ⟨rfl, rfl⟩
    exact ⟨rfl, Ext.refl _⟩
  refine RW_d _ rfl (fun v => by dsimp only [List.set]; try rfl) (fun u hu hF => ?_) (fun v95 => ?_)
  · have h30_ : v94 = (Bo β1) := hF.1
    clear hF
    obtain rfl := h30_
    refine doesG_g (b := β1) rfl (yld rfl rfl) (fun hg1 => ?_) (fun hc => ⟨fun hg1 => absurd hg1 hc, Ext.refl _⟩)
    refine (does_move (u := (Bo (meshOk A_m))) (ev rfl)).mono ?_; rintro _ _ ⟨rfl, rfl⟩
    exact ⟨fun _ => rfl, Ext.refl _⟩
  refine RW_d _ rfl (fun v => by dsimp only [List.set]; try rfl) (fun u hu hF => ?_) (fun v96 => ?_)
  · have h30_ : v94 = (Bo β1) := hF.1
    clear hF
    obtain rfl := h30_
    refine doesG_g (b := β1) rfl (yld rfl rfl) (fun hg1 => ?_) (fun hc => ⟨fun hg1 => absurd hg1 hc, Ext.refl _⟩)
    refine (does_move (u := (Bo (meshOk A_m))) (ev rfl)).mono ?_; rintro _ _ ⟨rfl, rfl⟩
    exact ⟨fun _ => rfl, Ext.refl _⟩
  refine RW_d _ rfl (fun v => by dsimp only [List.set]; try rfl) (fun u hu hF => ?_) (fun v97 => ?_)
  · have h31_ : β1 = false → v95 = (Bo (meshOk A_m)) := hF.1
    have h32_ : β1 = false → v96 = (Bo (meshOk A_m)) := hF.2.1
    have h30_ : v94 = (Bo β1) := hF.2.2.1
    clear hF
    obtain rfl := h30_
    refine doesG_g (b := β1) rfl (yld rfl rfl) (fun hg1 => ?_) (fun hc => ⟨fun hg1 => absurd hg1 hc, Ext.refl _⟩)
    obtain rfl := h31_ hg1
    obtain rfl := h32_ hg1
    refine (does_bne (p := (meshOk A_m)) (q := (meshOk A_m)) Try.underlying4 (ev rfl) (ev rfl)).mono ?_; rintro _ _ ⟨rfl, rfl⟩
    exact ⟨fun _ => (by first | rfl | (show _ = _; simp only [hβ2]; done) | (show _ = _; simp only [hβ2]; rfl)), Ext.refl _⟩
  refine RW_d _ rfl (fun v => by dsimp only [List.set]; try rfl) (fun u hu hF => ?_) (fun v98 => ?_)
  · have h30_ : v94 = (Bo β1) := hF.1
    have h33_ : β1 = false → v97 = (Bo β2) := hF.2.1
    clear hF
    refine doesG_un rfl ?_
    skip
    obtain rfl := h30_
    refine (does_pick (b := β1) (u := (Bo true)) (v := v97) (ev rfl) (ev rfl) (ev rfl)).mono ?_; rintro _ _ ⟨rfl, rfl⟩; refine ⟨?_, Ext.refl _⟩; skip
    cases hbb : β1
    all_goals first | (show _ = _; simp only [↓reduceIte, Bool.true_and, Bool.false_and, Bool.true_or, Bool.false_or, Bool.false_eq_true]; done) | (have e_ := h33_ hbb; subst e_; show _ = _; simp only [↓reduceIte, Bool.true_and, Bool.false_and, Bool.true_or, Bool.false_or, Bool.false_eq_true]; done) | rfl | (have e_ := h33_ hbb; subst e_; rfl) | (simp [hbb] at h33_ ⊢; first | done | rfl | (subst h33_; rfl) | simp_all) | (simp [hbb] at h33_ ⊢; done)
  refine RW_fin ?_; intro w99 E100 hP101
  obtain ⟨⟨⟨⟨⟨⟨⟨⟨-, -⟩, -⟩, -⟩, -⟩, -⟩, -⟩, -⟩, q102⟩ := hP101
  have X103 := Ext.gr X88 E100
  have q102 : v98 = (Bo (β1 || β2)) := q102
  obtain rfl := q102
  show wpList _ _ _ _ (fr [_, _, _, _, _, _, _, _, _, _, _, _, _, _, _, _, _, _, _, _, _, _, _, _, _, _, _, _, _, _, _, _, _, _, _, _, _, _, _, _]) _
  refine wpList_nil (hK90 _ _ ?_)
  refine wp_cond_split (t := β1 || β2) (ev rfl) (fun c104 => ?_) (fun c104 => ?_)
  · have c104' := c104
    (try simp only [hβ1, hβ2, sameMesh_self, bne_self_eq_false] at c104')
    (try simp only [hβ1, hβ2] at c104')
    (try simp only [icmp, Bool.and_eq_true, Bool.or_eq_true, Bool.and_eq_false_iff, Bool.or_eq_false_iff, Bool.not_eq_true', Bool.not_eq_false', decide_eq_true_eq, decide_eq_false_iff_not, beq_iff_eq, bne_iff_ne, beq_eq_false_iff_ne, bne_eq_false_iff_eq] at c104')
    refine wp_seq_k fun K105 hK105 => ?_
    refine wp_region_lit ?_
    refine q_is rfl rfl (does_assign (u := (Bo false)) (ev rfl)) (by dsimp only [List.set]; try rfl) ?_
    refine wpList_nil (hK105 _ _ ?_)
    refine wp_ret ?_
    dsimp only [Exit.then, Exit.inBlock]
    refine ret_val (v := (Bo false)) (res_T rfl (slot rfl)) X103 ?_
    try simp only [hβ1, hβ2, sameMesh_self, bne_self_eq_false] at c28 c104
    have x106 : true = false := by first | with_reducible rfl | (simp only [sameMesh_self, bne_self_eq_false, hβ1, hβ2, c28, c104]; done) | (simp [sameMesh_self, bne_self_eq_false, hβ1, hβ2, c28, c104]; done) | (revert c28 c104; simp +contextual [sameMesh_self, bne_self_eq_false, hβ1, hβ2]; done) | (rcases c28' with hh | hh <;> simp only [hh, sameMesh_self, bne_self_eq_false, hβ1, hβ2, c28, c104]; done) | (rcases c104' with hh | hh <;> simp only [hh, sameMesh_self, bne_self_eq_false, hβ1, hβ2, c28, c104]; done) | (rcases c104' with hh | hh <;> simp_all [sameMesh_self, bne_self_eq_false]; done) | (rcases c104' with hh | hh | hh <;> simp_all [sameMesh_self, bne_self_eq_false]; done) | (rcases c104' with hh | hh | hh | hh <;> simp_all [sameMesh_self, bne_self_eq_false]; done) | (simp_all [sameMesh_self, bne_self_eq_false]; done) | rfl
    exact (by first | with_reducible rfl | rw [x106] | rfl)
  have c104' := c104
  (try simp only [hβ1, hβ2, sameMesh_self, bne_self_eq_false] at c104')
  (try simp only [hβ1, hβ2] at c104')
  (try simp only [icmp, Bool.and_eq_true, Bool.or_eq_true, Bool.and_eq_false_iff, Bool.or_eq_false_iff, Bool.not_eq_true', Bool.not_eq_false', decide_eq_true_eq, decide_eq_false_iff_not, beq_iff_eq, bne_iff_ne, beq_eq_false_iff_ne, bne_eq_false_iff_eq] at c104')
  refine wp_skip (hK89 _ _ ?_)
  refine wp_seq_k fun K107 hK107 => ?_
  refine wp_seq_k fun K108 hK108 => ?_
  refine region_draw (
    [Fact.pure [] (fun v => v = (.agg #[(.slice p66 A_m.places.length q67), (.slice p69 A_m.tris.length q70)])),
    Fact.pure [] (fun v => v = (.agg #[(.slice p5 A_m.places.length q6), (.slice p8 A_m.tris.length q9)])),
    Fact.mem [36] (fun v w' => ∃ cs_1 : List Value, ∃ Lw_2 : List Nat, v = (.agg cs_1.toArray) ∧ Hang w99.heap.size w' (fun u => RMeshT u A_m cs_1) ∧ WLM w99.heap.size w' Lw_2 (cellN cs_1 0) (cellN cs_1 1) A_m) (by rintro v w1 w2 hx ⟨z1, z2, rfl, k0, k1⟩; exact ⟨_, _, rfl, (k0.ext hx), (k1.same (Same.of_ext hx))⟩),
    Fact.pure [35, 37] (fun v => v = (Bo (sameMesh A_m A_m))),
    Fact.pure [38] (fun v => v = (Bo (!(sameMesh A_m A_m))))]) mixed (by kernel_rfl) (by intro _ _ d _ _ h; cases d <;> exact h) ?_
  obtain ⟨w109, hw111⟩ : ∃ w', w' = World.drew w99 := ⟨_, rfl⟩; rw [← hw111]; have E110 : Ext w99 w109 := by rw [hw111]; exact Ext.draw _
  clear hw111
  have X112 := Ext.gr X103 E110
  refine RW_d _ rfl (fun v => by dsimp only [List.set]; try rfl) (fun u hu hF => ?_) (fun v113 => ?_)
  · clear hF
    refine doesG_un rfl ?_
    refine (does_loadAgg (cs := [(.slice p66 A_m.places.length q67), (.slice p69 A_m.tris.length q70)]) (ev rfl) Try.isAgg32 Try.sizeOf32 (Blk.cells ((((hB82.ext E86).ext E100).ext E110).ext hu)) rfl).mono ?_; rintro _ _ ⟨rfl, rfl⟩
    exact ⟨rfl, Ext.refl _⟩
  refine RW_d _ rfl (fun v => by dsimp only [List.set]; try rfl) (fun u hu hF => ?_) (fun v114 => ?_)
  · clear hF
    refine doesG_un rfl ?_
    refine (does_loadAgg (cs := [(.slice p5 A_m.places.length q6), (.slice p8 A_m.tris.length q9)]) (ev rfl) Try.isAgg25 Try.sizeOf25 (Blk.cells ((((((((((hB14.ext E21).ext E31).ext E50).ext E54).ext E76).wr W81 (Nat.ne_of_lt n78)).ext E86).ext E100).ext E110).ext hu)) rfl).mono ?_; rintro _ _ ⟨rfl, rfl⟩
    exact ⟨rfl, Ext.refl _⟩
  refine RW_d _ rfl (fun v => by dsimp only [List.set]; try rfl) (fun u hu hF => ?_) (fun v115 => ?_)
  · have h36_ : v114 = (.agg #[(.slice p5 A_m.places.length q6), (.slice p8 A_m.tris.length q9)]) := hF.1
    clear hF
    refine doesG_un rfl ?_
    obtain rfl := h36_
    refine (does_call (args := #[(.agg #[(.slice p5 A_m.places.length q6), (.slice p8 A_m.tris.length q9)])]) cal9 (evs rfl) (c_laws_toMesh [(.slice p5 A_m.places.length q6), (.slice p8 A_m.tris.length q9)] A_m _ ⟨(.slice p5 A_m.places.length q6), (.slice p8 A_m.tris.length q9), rfl, (Sl.ext (Sl.ext hs7 RV3.mono (Ext.gr X103 E110)) RV3.mono hu), (Sl.ext (Sl.ext hs10 (RS.mono RI.mono) (Ext.gr X103 E110)) (RS.mono RI.mono) hu)⟩ (by omega))).mono ?_; rintro v u' ⟨hx, ⟨csn1, Lwn2, hv, k0, k1⟩⟩
    exact ⟨⟨csn1, Lwn2, hv, (Hang.le k0 (Nat.le_trans (Below.size E110) (Below.size hu))), (WLM.le k1 (Nat.le_trans (Below.size E110) (Below.size hu)))⟩, hx⟩
  refine RW_d _ rfl (fun v => by dsimp only [List.set]; try rfl) (fun u hu hF => ?_) (fun v116 => ?_)
  · have h35_ : v113 = (.agg #[(.slice p66 A_m.places.length q67), (.slice p69 A_m.tris.length q70)]) := hF.1
    have h37_ : ∃ cs_1 : List Value, ∃ Lw_2 : List Nat, v115 = (.agg cs_1.toArray) ∧ Hang w99.heap.size u (fun u => RMeshT u A_m cs_1) ∧ WLM w99.heap.size u Lw_2 (cellN cs_1 0) (cellN cs_1 1) A_m := hF.2.1
    clear hF
    refine doesG_un rfl ?_
    obtain rfl := h35_
    obtain ⟨cs37_2, Lw37_3, rfl, hh37_1, hw37_4⟩ := h37_
    obtain ⟨y37_5, y37_7, rfl, h37_6, h37_8⟩ := hh37_1.get
    have hh37_6 := h37_6; obtain ⟨p37_9, q37_10, rfl⟩ := Sl.shape h37_6
    have hh37_8 := h37_8; obtain ⟨p37_11, q37_12, rfl⟩ := Sl.shape h37_8
    refine (does_call (args := #[(.agg #[(.slice p66 A_m.places.length q67), (.slice p69 A_m.tris.length q70)]), (.agg #[(.slice p37_9 A_m.places.length q37_10), (.slice p37_11 A_m.tris.length q37_12)])]) cal12 (evs rfl) (c_laws_eqMesh [(.slice p66 A_m.places.length q67), (.slice p69 A_m.tris.length q70)] A_m [(.slice p37_9 A_m.places.length q37_10), (.slice p37_11 A_m.tris.length q37_12)] A_m _ ⟨(.slice p66 A_m.places.length q67), (.slice p69 A_m.tris.length q70), rfl, (Sl.ext (hh68 _ ((((((Same.refl _ _).ext E76).wr W81 (.inr (Nat.le_trans (Nat.le_refl _) hb74))).ext E86).ext E100).ext E110)) RV3.mono hu), (Sl.ext (hh71 _ ((((((Same.refl _ _).ext E76).wr W81 (.inr (Nat.le_trans (Nat.le_refl _) hb74))).ext E86).ext E100).ext E110)) (RS.mono RI.mono) hu)⟩ ⟨(.slice p37_9 A_m.places.length q37_10), (.slice p37_11 A_m.tris.length q37_12), rfl, hh37_6, hh37_8⟩)).mono ?_; rintro v u' ⟨hx, hv⟩
    exact ⟨hv, hx⟩
  refine RW_d _ rfl (fun v => by dsimp only [List.set]; try rfl) (fun u hu hF => ?_) (fun v117 => ?_)
  · have h38_ : v116 = (Bo (sameMesh A_m A_m)) := hF.1
    clear hF
    refine doesG_un rfl ?_
    obtain rfl := h38_
    refine (does_not (ev rfl)).mono ?_; rintro _ _ ⟨rfl, rfl⟩
    exact ⟨rfl, Ext.refl _⟩
  refine RW_fin ?_; intro w118 E119 hP120
  obtain ⟨⟨⟨⟨⟨-, -⟩, -⟩, -⟩, -⟩, q121⟩ := hP120
  have X122 := Ext.gr X112 E119
  have q121 : v117 = (Bo (!(sameMesh A_m A_m))) := q121
  obtain rfl := q121
  show wpList _ _ _ _ (fr [_, _, _, _, _, _, _, _, _, _, _, _, _, _, _, _, _, _, _, _, _, _, _, _, _, _, _, _, _, _, _, _, _, _, _, _, _, _, _, _]) _
  refine wpList_nil (hK108 _ _ ?_)
  refine wp_cond_split (t := !(sameMesh A_m A_m)) (ev rfl) (fun c123 => ?_) (fun c123 => ?_)
  · rw [Bool.not_eq_true'] at c123
    have c123' := c123
    (try simp only [hβ1, hβ2, sameMesh_self, bne_self_eq_false] at c123')
    (try simp only [hβ1, hβ2] at c123')
    (try simp only [icmp, Bool.and_eq_true, Bool.or_eq_true, Bool.and_eq_false_iff, Bool.or_eq_false_iff, Bool.not_eq_true', Bool.not_eq_false', decide_eq_true_eq, decide_eq_false_iff_not, beq_iff_eq, bne_iff_ne, beq_eq_false_iff_ne, bne_eq_false_iff_eq] at c123')
    refine wp_seq_k fun K124 hK124 => ?_
    refine wp_region_lit ?_
    refine q_is rfl rfl (does_assign (u := (Bo false)) (ev rfl)) (by dsimp only [List.set]; try rfl) ?_
    refine wpList_nil (hK124 _ _ ?_)
    refine wp_ret ?_
    dsimp only [Exit.then, Exit.inBlock]
    refine ret_val (v := (Bo false)) (res_T rfl (slot rfl)) X122 ?_
    try simp only [hβ1, hβ2, sameMesh_self, bne_self_eq_false] at c28 c104 c123
    have x125 : true = false := by first | with_reducible rfl | (simp only [sameMesh_self, bne_self_eq_false, hβ1, hβ2, c28, c104, c123]; done) | (simp [sameMesh_self, bne_self_eq_false, hβ1, hβ2, c28, c104, c123]; done) | (revert c28 c104 c123; simp +contextual [sameMesh_self, bne_self_eq_false, hβ1, hβ2]; done) | (rcases c28' with hh | hh <;> simp only [hh, sameMesh_self, bne_self_eq_false, hβ1, hβ2, c28, c104, c123]; done) | (rcases c104' with hh | hh <;> simp only [hh, sameMesh_self, bne_self_eq_false, hβ1, hβ2, c28, c104, c123]; done) | (rcases c123' with hh | hh <;> simp only [hh, sameMesh_self, bne_self_eq_false, hβ1, hβ2, c28, c104, c123]; done) | (rcases c123' with hh | hh <;> simp_all [sameMesh_self, bne_self_eq_false]; done) | (rcases c123' with hh | hh | hh <;> simp_all [sameMesh_self, bne_self_eq_false]; done) | (rcases c123' with hh | hh | hh | hh <;> simp_all [sameMesh_self, bne_self_eq_false]; done) | (simp_all [sameMesh_self, bne_self_eq_false]; done) | rfl
    exact (by first | with_reducible rfl | rw [x125] | rfl)
  rw [Bool.not_eq_false'] at c123
  have c123' := c123
  (try simp only [hβ1, hβ2, sameMesh_self, bne_self_eq_false] at c123')
  (try simp only [hβ1, hβ2] at c123')
  (try simp only [icmp, Bool.and_eq_true, Bool.or_eq_true, Bool.and_eq_false_iff, Bool.or_eq_false_iff, Bool.not_eq_true', Bool.not_eq_false', decide_eq_true_eq, decide_eq_false_iff_not, beq_iff_eq, bne_iff_ne, beq_eq_false_iff_ne, bne_eq_false_iff_eq] at c123')
  refine wp_skip (hK107 _ _ ?_)
  refine wp_seq_k fun K126 hK126 => ?_
  refine wp_region_lit ?_
  refine q_is rfl rfl (does_assign (u := (Bo true)) (ev rfl)) (by dsimp only [List.set]; try rfl) ?_
  refine wpList_nil (hK126 _ _ ?_)
  refine wp_ret ?_
  refine ret_val (v := (Bo true)) (res_T rfl (slot rfl)) X122 ?_
  try simp only [hβ1, hβ2, sameMesh_self, bne_self_eq_false] at c28 c104 c123
  exact rfl

end Go.Proofs.Ytoblnfkpjgghiaa
