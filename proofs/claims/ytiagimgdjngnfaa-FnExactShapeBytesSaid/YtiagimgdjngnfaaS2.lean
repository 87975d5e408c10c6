/- contracts of functions, each walked once -/
import Derived.Test.YtiagimgdjngnfaaS
namespace Go.Proofs.Ytiagimgdjngnfaa
open Go Go.RowKit
set_option maxRecDepth 100000
set_option maxHeartbeats 3200000
set_option linter.unusedVariables false
set_option linter.unusedSimpArgs false

/- laws.toFloat32S -/
theorem c_laws_toFloat32S (a : Value) (L_a : List Nat) (w : World) (hv_a : Sl RF 1 w a L_a) (hsz : L_a.length ≤ 1048576) : Gives Try.prog 84 #[a] w (fun v w' => ∃ y_1 : Value, ∃ Lw_2 : List Nat, v = y_1 ∧ Hang w.heap.size w' (fun u => Sl RF 1 u y_1 L_a) ∧ WL 1 w.heap.size w' Lw_2 y_1 L_a.length) := by
  have hlen_a := Sl.len hv_a; obtain ⟨p_a, q_a, rfl⟩ := Sl.shape hv_a
  refine enter [(.slice p_a L_a.length q_a), Ud, Ud, Ud, Ud, Ud, Ud, Ud, Ud, Ud, Ud, Ud, Ud, Ud, Ud, Ud, Ud, Ud, Ud, Ud, Ud, Ud] Try.func84 rfl Try.ntmps84 rfl ?_
  refine wp_seq_k fun K1 hK1 => ?_
  refine wp_region_lit ?_
  refine q_is (l' := [(.slice p_a L_a.length q_a), Ud, (.slice none 0 0), Ud, Ud, Ud, Ud, Ud, Ud, Ud, Ud, Ud, Ud, Ud, Ud, Ud, Ud, Ud, Ud, Ud, Ud, Ud]) rfl rfl (does_assign (u := (.slice none 0 0)) (ev rfl)) rfl ?_
  refine wpList_nil (hK1 _ _ ?_)
  refine wp_seq_k fun K2 hK2 => ?_
  refine wp_region_lit ?_
  refine q_is (l' := [(.slice p_a L_a.length q_a), Ud, (.slice none 0 0), Ud, Ud, (.slice p_a L_a.length q_a), Ud, Ud, Ud, Ud, Ud, Ud, Ud, Ud, Ud, Ud, Ud, Ud, Ud, Ud, Ud, Ud]) rfl rfl (does_move (u := (.slice p_a L_a.length q_a)) (ev rfl)) rfl ?_
  refine q_is (l' := [(.slice p_a L_a.length q_a), Ud, (.slice none 0 0), Ud, Ud, (.slice p_a L_a.length q_a), (Iv (L_a.length : Int)), Ud, Ud, Ud, Ud, Ud, Ud, Ud, Ud, Ud, Ud, Ud, Ud, Ud, Ud, Ud]) rfl rfl (does_len_slice Try.underlying97 (ev rfl)) rfl ?_
  refine seqd rfl rfl (does_makeSlice (n := L_a.length) Try.underlying97 inf38 (ev rfl) (ev rfl) (by omega)) ?_; rintro _ w7 ⟨b3, rfl, hb4, ⟨cs8, hB5, hl9, hz10⟩, E6⟩
  have g11 : w.heap.size ≤ b3 := Nat.le_trans (Below.size (Ext.refl w)) hb4
  have X12 := Ext.gr (Ext.refl w) E6
  show wpList _ _ _ _ (fr [(.slice p_a L_a.length q_a), Ud, (.slice none 0 0), Ud, Ud, (.slice p_a L_a.length q_a), (Iv (L_a.length : Int)), (.slice (some ⟨b3, 0, none⟩) L_a.length L_a.length), Ud, Ud, Ud, Ud, Ud, Ud, Ud, Ud, Ud, Ud, Ud, Ud, Ud, Ud]) _
  refine q_is (l' := [(.slice p_a L_a.length q_a), Ud, (.slice none 0 0), (.slice (some ⟨b3, 0, none⟩) L_a.length L_a.length), Ud, (.slice p_a L_a.length q_a), (Iv (L_a.length : Int)), (.slice (some ⟨b3, 0, none⟩) L_a.length L_a.length), Ud, Ud, Ud, Ud, Ud, Ud, Ud, Ud, Ud, Ud, Ud, Ud, Ud, Ud]) rfl rfl (does_assign (u := (.slice (some ⟨b3, 0, none⟩) L_a.length L_a.length)) (ev rfl)) rfl ?_
  refine wpList_nil (hK2 _ _ ?_)
  refine wp_seq_k fun K13 hK13 => ?_
  refine wp_seq_k fun K14 hK14 => ?_
  refine wp_region_lit ?_
  refine q_is (l' := [(.slice p_a L_a.length q_a), Ud, (.slice none 0 0), (.slice (some ⟨b3, 0, none⟩) L_a.length L_a.length), (Iv 0), (.slice p_a L_a.length q_a), (Iv (L_a.length : Int)), (.slice (some ⟨b3, 0, none⟩) L_a.length L_a.length), Ud, Ud, Ud, Ud, Ud, Ud, Ud, Ud, Ud, Ud, Ud, Ud, Ud, Ud]) rfl rfl (does_assign (u := (Iv 0)) (ev rfl)) rfl ?_
  refine wpList_nil (hK14 _ _ ?_)
  refine wp_block ?_
  have hF0 : Fill RF 1 w7 b3 L_a.length L_a 0 := Fill.zero hB5 hl9
  refine loop_ghost (σ := Nat) (fun k a w' => ∃ u15 : Nat → Value, a = fr [(.slice p_a L_a.length q_a), Ud, (.slice none 0 0), (.slice (some ⟨b3, 0, none⟩) L_a.length L_a.length), (Iv (k : Int)), (.slice p_a L_a.length q_a), (Iv (L_a.length : Int)), (.slice (some ⟨b3, 0, none⟩) L_a.length L_a.length), (u15 8), (u15 9), (u15 10), (u15 11), (u15 12), (u15 13), (u15 14), (u15 15), (u15 16), (u15 17), (u15 18), (u15 19), (u15 20), Ud] ∧ KpL [b3] w7 w' ∧ Fill RF 1 w' b3 L_a.length L_a k ∧ (k ≤ L_a.length)) (fun k => L_a.length - k) 0 ?_ ?_
  · refine ⟨fun t => (([(.slice p_a L_a.length q_a), Ud, (.slice none 0 0), (.slice (some ⟨b3, 0, none⟩) L_a.length L_a.length), (Iv 0), (.slice p_a L_a.length q_a), (Iv (L_a.length : Int)), (.slice (some ⟨b3, 0, none⟩) L_a.length L_a.length), Ud, Ud, Ud, Ud, Ud, Ud, Ud, Ud, Ud, Ud, Ud, Ud, Ud, Ud] : List Value)[t]?).getD undef, rfl, KpL.refl _ _, hF0, ?_⟩
    exact Nat.zero_le _
  · rintro k a w16 ⟨u15, rfl, E17, hF18, hk⟩
    have X19 := Below.kl X12 E17 (allS g11 all0) (Nat.le_refl _)
    refine wp_seq_k fun K20 hK20 => ?_
    refine wp_seq_k fun K21 hK21 => ?_
    refine wp_region_lit ?_
    refine q_is (l' := [(.slice p_a L_a.length q_a), Ud, (.slice none 0 0), (.slice (some ⟨b3, 0, none⟩) L_a.length L_a.length), (Iv (k : Int)), (.slice p_a L_a.length q_a), (Iv (L_a.length : Int)), (.slice (some ⟨b3, 0, none⟩) L_a.length L_a.length), (Iv (k : Int)), (u15 9), (u15 10), (u15 11), (u15 12), (u15 13), (u15 14), (u15 15), (u15 16), (u15 17), (u15 18), (u15 19), (u15 20), Ud]) rfl rfl (does_move (u := (Iv (k : Int))) (ev rfl)) rfl ?_
    refine q_is (l' := [(.slice p_a L_a.length q_a), Ud, (.slice none 0 0), (.slice (some ⟨b3, 0, none⟩) L_a.length L_a.length), (Iv (k : Int)), (.slice p_a L_a.length q_a), (Iv (L_a.length : Int)), (.slice (some ⟨b3, 0, none⟩) L_a.length L_a.length), (Iv (k : Int)), (.slice p_a L_a.length q_a), (u15 10), (u15 11), (u15 12), (u15 13), (u15 14), (u15 15), (u15 16), (u15 17), (u15 18), (u15 19), (u15 20), Ud]) rfl rfl (does_move (u := (.slice p_a L_a.length q_a)) (ev rfl)) rfl ?_
    refine q_is (l' := [(.slice p_a L_a.length q_a), Ud, (.slice none 0 0), (.slice (some ⟨b3, 0, none⟩) L_a.length L_a.length), (Iv (k : Int)), (.slice p_a L_a.length q_a), (Iv (L_a.length : Int)), (.slice (some ⟨b3, 0, none⟩) L_a.length L_a.length), (Iv (k : Int)), (.slice p_a L_a.length q_a), (Iv (L_a.length : Int)), (u15 11), (u15 12), (u15 13), (u15 14), (u15 15), (u15 16), (u15 17), (u15 18), (u15 19), (u15 20), Ud]) rfl rfl (does_len_slice Try.underlying97 (ev rfl)) rfl ?_
    refine q_is (l' := [(.slice p_a L_a.length q_a), Ud, (.slice none 0 0), (.slice (some ⟨b3, 0, none⟩) L_a.length L_a.length), (Iv (k : Int)), (.slice p_a L_a.length q_a), (Iv (L_a.length : Int)), (.slice (some ⟨b3, 0, none⟩) L_a.length L_a.length), (Iv (k : Int)), (.slice p_a L_a.length q_a), (Iv (L_a.length : Int)), (Bo (icmp .lss (k : Int) (L_a.length : Int))), (u15 12), (u15 13), (u15 14), (u15 15), (u15 16), (u15 17), (u15 18), (u15 19), (u15 20), Ud]) rfl rfl (does_icmp (p := (k : Int)) (q := (L_a.length : Int)) (.inr (.inr (.inl rfl))) (ev rfl) (ev rfl)) rfl ?_
    refine wpList_nil (hK21 _ _ ?_)
    refine wp_cond_split (t := icmp .lss (k : Int) (L_a.length : Int)) (ev rfl) (fun c22 => ?_) (fun c22 => ?_)
    · have c22' := c22
      (try simp only [icmp, Bool.and_eq_true, Bool.or_eq_true, Bool.and_eq_false_iff, Bool.or_eq_false_iff, Bool.not_eq_true', Bool.not_eq_false', decide_eq_true_eq, decide_eq_false_iff_not, beq_iff_eq, bne_iff_ne, beq_eq_false_iff_ne, bne_eq_false_iff_eq] at c22')
      refine wp_skip (hK20 _ _ ?_)
      refine wp_seq_k fun K23 hK23 => ?_
      refine wp_block ?_
      refine wp_region_lit ?_
      refine q_is (l' := [(.slice p_a L_a.length q_a), Ud, (.slice none 0 0), (.slice (some ⟨b3, 0, none⟩) L_a.length L_a.length), (Iv (k : Int)), (.slice p_a L_a.length q_a), (Iv (L_a.length : Int)), (.slice (some ⟨b3, 0, none⟩) L_a.length L_a.length), (Iv (k : Int)), (.slice p_a L_a.length q_a), (Iv (L_a.length : Int)), (Bo (icmp .lss (k : Int) (L_a.length : Int))), (u15 12), (u15 13), (.slice (some ⟨b3, 0, none⟩) L_a.length L_a.length), (u15 15), (u15 16), (u15 17), (u15 18), (u15 19), (u15 20), Ud]) rfl rfl (does_move (u := (.slice (some ⟨b3, 0, none⟩) L_a.length L_a.length)) (ev rfl)) rfl ?_
      refine q_is (l' := [(.slice p_a L_a.length q_a), Ud, (.slice none 0 0), (.slice (some ⟨b3, 0, none⟩) L_a.length L_a.length), (Iv (k : Int)), (.slice p_a L_a.length q_a), (Iv (L_a.length : Int)), (.slice (some ⟨b3, 0, none⟩) L_a.length L_a.length), (Iv (k : Int)), (.slice p_a L_a.length q_a), (Iv (L_a.length : Int)), (Bo (icmp .lss (k : Int) (L_a.length : Int))), (u15 12), (u15 13), (.slice (some ⟨b3, 0, none⟩) L_a.length L_a.length), (Iv (k : Int)), (u15 16), (u15 17), (u15 18), (u15 19), (u15 20), Ud]) rfl rfl (does_move (u := (Iv (k : Int))) (ev rfl)) rfl ?_
      refine q_is (l' := [(.slice p_a L_a.length q_a), Ud, (.slice none 0 0), (.slice (some ⟨b3, 0, none⟩) L_a.length L_a.length), (Iv (k : Int)), (.slice p_a L_a.length q_a), (Iv (L_a.length : Int)), (.slice (some ⟨b3, 0, none⟩) L_a.length L_a.length), (Iv (k : Int)), (.slice p_a L_a.length q_a), (Iv (L_a.length : Int)), (Bo (icmp .lss (k : Int) (L_a.length : Int))), (u15 12), (u15 13), (.slice (some ⟨b3, 0, none⟩) L_a.length L_a.length), (Iv (k : Int)), (.slice p_a L_a.length q_a), (u15 17), (u15 18), (u15 19), (u15 20), Ud]) rfl rfl (does_move (u := (.slice p_a L_a.length q_a)) (ev rfl)) rfl ?_
      refine q_is (l' := [(.slice p_a L_a.length q_a), Ud, (.slice none 0 0), (.slice (some ⟨b3, 0, none⟩) L_a.length L_a.length), (Iv (k : Int)), (.slice p_a L_a.length q_a), (Iv (L_a.length : Int)), (.slice (some ⟨b3, 0, none⟩) L_a.length L_a.length), (Iv (k : Int)), (.slice p_a L_a.length q_a), (Iv (L_a.length : Int)), (Bo (icmp .lss (k : Int) (L_a.length : Int))), (u15 12), (u15 13), (.slice (some ⟨b3, 0, none⟩) L_a.length L_a.length), (Iv (k : Int)), (.slice p_a L_a.length q_a), (Iv (k : Int)), (u15 18), (u15 19), (u15 20), Ud]) rfl rfl (does_move (u := (Iv (k : Int))) (ev rfl)) rfl ?_
      obtain ⟨el1, hel1⟩ : ∃ e, L_a[k]? = some e := ⟨_, List.getElem?_eq_getElem (by omega)⟩
      refine seqd rfl rfl (does_indexSl (R := RF) (i := (k : Int)) (xs := L_a) (e := el1) Try.underlying97 Try.sizeOf38 (ev rfl) (ev rfl) (Sl.ext hv_a RF.mono X19) (by omega) hel1) ?_; rintro _ w16 ⟨b24, o25, _, rfl, hc27, ⟨r28, rfl, h29⟩, rfl⟩
      show wpList _ _ _ _ (fr [(.slice p_a L_a.length q_a), Ud, (.slice none 0 0), (.slice (some ⟨b3, 0, none⟩) L_a.length L_a.length), (Iv (k : Int)), (.slice p_a L_a.length q_a), (Iv (L_a.length : Int)), (.slice (some ⟨b3, 0, none⟩) L_a.length L_a.length), (Iv (k : Int)), (.slice p_a L_a.length q_a), (Iv (L_a.length : Int)), (Bo (icmp .lss (k : Int) (L_a.length : Int))), (u15 12), (u15 13), (.slice (some ⟨b3, 0, none⟩) L_a.length L_a.length), (Iv (k : Int)), (.slice p_a L_a.length q_a), (Iv (k : Int)), (Pt b24 o25), (u15 19), (u15 20), Ud]) _
      refine q_is (l' := [(.slice p_a L_a.length q_a), Ud, (.slice none 0 0), (.slice (some ⟨b3, 0, none⟩) L_a.length L_a.length), (Iv (k : Int)), (.slice p_a L_a.length q_a), (Iv (L_a.length : Int)), (.slice (some ⟨b3, 0, none⟩) L_a.length L_a.length), (Iv (k : Int)), (.slice p_a L_a.length q_a), (Iv (L_a.length : Int)), (Bo (icmp .lss (k : Int) (L_a.length : Int))), (u15 12), (u15 13), (.slice (some ⟨b3, 0, none⟩) L_a.length L_a.length), (Iv (k : Int)), (.slice p_a L_a.length q_a), (Iv (k : Int)), (Pt b24 o25), (Fl r28), (u15 20), Ud]) rfl rfl (does_load (u := (Fl r28)) (ev rfl) Try.isAgg38 (Cells.at hc27 0 rfl)) rfl ?_
      refine q_is (l' := [(.slice p_a L_a.length q_a), Ud, (.slice none 0 0), (.slice (some ⟨b3, 0, none⟩) L_a.length L_a.length), (Iv (k : Int)), (.slice p_a L_a.length q_a), (Iv (L_a.length : Int)), (.slice (some ⟨b3, 0, none⟩) L_a.length L_a.length), (Iv (k : Int)), (.slice p_a L_a.length q_a), (Iv (L_a.length : Int)), (Bo (icmp .lss (k : Int) (L_a.length : Int))), (u15 12), (u15 13), (.slice (some ⟨b3, 0, none⟩) L_a.length L_a.length), (Iv (k : Int)), (.slice p_a L_a.length q_a), (Iv (k : Int)), (Pt b24 o25), (Fl r28), (Pt b3 (k * 1)), Ud]) rfl rfl (does_indexOwn (b := b3) (n := L_a.length) (i := (k : Int)) Try.underlying97 Try.sizeOf38 (ev rfl) (ev rfl) (by omega) (by omega)) rfl ?_
      refine seqn rfl rfl (does_fill (R := RF) (k := 1) (n := L_a.length) (j := k) (xs := L_a) (u := (Fl r28)) (e := el1) (ev rfl) (ev rfl) Try.sizeOf38 rfl rfl hF18 (by omega) hel1 (fun _ => ⟨_, rfl, h29⟩) (fun _ _ _ _ h => h)) ?_; rintro _ w32 ⟨rfl, W30, hF31⟩
      have X33 := Below.wr X19 W30 g11
      refine wpList_nil (hK23 _ _ ?_)
      refine wp_region_lit ?_
      refine q_is (l' := [(.slice p_a L_a.length q_a), Ud, (.slice none 0 0), (.slice (some ⟨b3, 0, none⟩) L_a.length L_a.length), (Iv (k : Int)), (.slice p_a L_a.length q_a), (Iv (L_a.length : Int)), (.slice (some ⟨b3, 0, none⟩) L_a.length L_a.length), (Iv (k : Int)), (.slice p_a L_a.length q_a), (Iv (L_a.length : Int)), (Bo (icmp .lss (k : Int) (L_a.length : Int))), (Iv (k : Int)), (u15 13), (.slice (some ⟨b3, 0, none⟩) L_a.length L_a.length), (Iv (k : Int)), (.slice p_a L_a.length q_a), (Iv (k : Int)), (Pt b24 o25), (Fl r28), (Pt b3 (k * 1)), Ud]) rfl rfl (does_move (u := (Iv (k : Int))) (ev rfl)) rfl ?_
      refine q_is (l' := [(.slice p_a L_a.length q_a), Ud, (.slice none 0 0), (.slice (some ⟨b3, 0, none⟩) L_a.length L_a.length), (Iv (k : Int)), (.slice p_a L_a.length q_a), (Iv (L_a.length : Int)), (.slice (some ⟨b3, 0, none⟩) L_a.length L_a.length), (Iv (k : Int)), (.slice p_a L_a.length q_a), (Iv (L_a.length : Int)), (Bo (icmp .lss (k : Int) (L_a.length : Int))), (Iv (k : Int)), (Iv ((k : Int) + 1)), (.slice (some ⟨b3, 0, none⟩) L_a.length L_a.length), (Iv (k : Int)), (.slice p_a L_a.length q_a), (Iv (k : Int)), (Pt b24 o25), (Fl r28), (Pt b3 (k * 1)), Ud]) rfl rfl (does_iarith (p := (k : Int)) (q := 1) (r := (k : Int) + 1) (ev rfl) (ev rfl) (.inl ⟨rfl, (in_i64 (by omega) (by omega)).symm⟩)) rfl ?_
      refine q_is (l' := [(.slice p_a L_a.length q_a), Ud, (.slice none 0 0), (.slice (some ⟨b3, 0, none⟩) L_a.length L_a.length), (Iv ((k : Int) + 1)), (.slice p_a L_a.length q_a), (Iv (L_a.length : Int)), (.slice (some ⟨b3, 0, none⟩) L_a.length L_a.length), (Iv (k : Int)), (.slice p_a L_a.length q_a), (Iv (L_a.length : Int)), (Bo (icmp .lss (k : Int) (L_a.length : Int))), (Iv (k : Int)), (Iv ((k : Int) + 1)), (.slice (some ⟨b3, 0, none⟩) L_a.length L_a.length), (Iv (k : Int)), (.slice p_a L_a.length q_a), (Iv (k : Int)), (Pt b24 o25), (Fl r28), (Pt b3 (k * 1)), Ud]) rfl rfl (does_assign (u := (Iv ((k : Int) + 1))) (ev rfl)) rfl ?_
      refine wpList_nil ?_
      refine ⟨k + 1, ⟨fun t => (([(.slice p_a L_a.length q_a), Ud, (.slice none 0 0), (.slice (some ⟨b3, 0, none⟩) L_a.length L_a.length), (Iv ((k : Int) + 1)), (.slice p_a L_a.length q_a), (Iv (L_a.length : Int)), (.slice (some ⟨b3, 0, none⟩) L_a.length L_a.length), (Iv (k : Int)), (.slice p_a L_a.length q_a), (Iv (L_a.length : Int)), (Bo (icmp .lss (k : Int) (L_a.length : Int))), (Iv (k : Int)), (Iv ((k : Int) + 1)), (.slice (some ⟨b3, 0, none⟩) L_a.length L_a.length), (Iv (k : Int)), (.slice p_a L_a.length q_a), (Iv (k : Int)), (Pt b24 o25), (Fl r28), (Pt b3 (k * 1)), Ud] : List Value)[t]?).getD undef, ?_, (KpL.more E17 (KpL.of_wr W30) (allS (.inl (by simp)) all0)), hF31, ?_⟩, ?_⟩
      · first | rfl | (simp only [Int.natCast_add, Int.natCast_one]; rfl)
      · omega
      · omega
    have c22' := c22
    (try simp only [icmp, Bool.and_eq_true, Bool.or_eq_true, Bool.and_eq_false_iff, Bool.or_eq_false_iff, Bool.not_eq_true', Bool.not_eq_false', decide_eq_true_eq, decide_eq_false_iff_not, beq_iff_eq, bne_iff_ne, beq_eq_false_iff_ne, bne_eq_false_iff_eq] at c22')
    refine wp_exit ?_
    refine hK13 _ _ ?_
    refine wp_seq_k fun K34 hK34 => ?_
    refine wp_region_lit ?_
    refine q_is (l' := [(.slice p_a L_a.length q_a), Ud, (.slice none 0 0), (.slice (some ⟨b3, 0, none⟩) L_a.length L_a.length), (Iv (k : Int)), (.slice p_a L_a.length q_a), (Iv (L_a.length : Int)), (.slice (some ⟨b3, 0, none⟩) L_a.length L_a.length), (Iv (k : Int)), (.slice p_a L_a.length q_a), (Iv (L_a.length : Int)), (Bo (icmp .lss (k : Int) (L_a.length : Int))), (u15 12), (u15 13), (u15 14), (u15 15), (u15 16), (u15 17), (u15 18), (u15 19), (u15 20), (.slice (some ⟨b3, 0, none⟩) L_a.length L_a.length)]) rfl rfl (does_move (u := (.slice (some ⟨b3, 0, none⟩) L_a.length L_a.length)) (ev rfl)) rfl ?_
    refine q_is (l' := [(.slice p_a L_a.length q_a), Ud, (.slice (some ⟨b3, 0, none⟩) L_a.length L_a.length), (.slice (some ⟨b3, 0, none⟩) L_a.length L_a.length), (Iv (k : Int)), (.slice p_a L_a.length q_a), (Iv (L_a.length : Int)), (.slice (some ⟨b3, 0, none⟩) L_a.length L_a.length), (Iv (k : Int)), (.slice p_a L_a.length q_a), (Iv (L_a.length : Int)), (Bo (icmp .lss (k : Int) (L_a.length : Int))), (u15 12), (u15 13), (u15 14), (u15 15), (u15 16), (u15 17), (u15 18), (u15 19), (u15 20), (.slice (some ⟨b3, 0, none⟩) L_a.length L_a.length)]) rfl rfl (does_assign (u := (.slice (some ⟨b3, 0, none⟩) L_a.length L_a.length)) (ev rfl)) rfl ?_
    refine wpList_nil (hK34 _ _ ?_)
    refine wp_ret ?_
    refine ret_val (v := (.slice (some ⟨b3, 0, none⟩) L_a.length L_a.length)) (res_T rfl (slot rfl)) X19 ?_
    exact ⟨(.slice (some ⟨b3, 0, none⟩) L_a.length L_a.length), [b3], rfl, (Fill.hang hF18 RF.flat g11 (by omega) rfl (by omega) (by decide)), (Fill.wl hF18 g11)⟩

/- laws.toNode -/
theorem c_laws_toNode (a : List Value) (A_a : NodeT) (w : World) (hv_a : RNodeT w A_a a) (hsz : A_a.nums.length ≤ 1048576) : Gives Try.prog 54 #[(.agg a.toArray)] w (fun v w' => ∃ cs_1 : List Value, v = (.agg cs_1.toArray) ∧ Hang w.heap.size w' (fun u => RNodeT u A_a cs_1)) := by
  obtain ⟨y1, rfl, h2⟩ := hv_a
  have hs5 := h2; have hs5l := Sl.len h2; obtain ⟨p3, q4, rfl⟩ := Sl.shape h2
  refine enter [(.agg #[(Iv A_a.kind), (Iv A_a.a), (Iv A_a.b), (.slice p3 A_a.nums.length q4)]), Ud, Ud, Ud, Ud, Ud, Ud, Ud, Ud, Ud, Ud, Ud, Ud, Ud, Ud, Ud, Ud, Ud] Try.func54 rfl Try.ntmps54 rfl ?_
  refine wp_seq_k fun K6 hK6 => ?_
  refine wp_region_lit ?_
  refine seqd rfl rfl (does_box (u := (.agg #[(Iv A_a.kind), (Iv A_a.a), (Iv A_a.b), (.slice p3 A_a.nums.length q4)])) (ev rfl)) ?_; rintro _ w11 ⟨b7, rfl, hb8, hB9, E10⟩
  have g12 : w.heap.size ≤ b7 := Nat.le_trans (Below.size (Ext.refl w)) hb8
  change Blk _ _ [(Iv A_a.kind), (Iv A_a.a), (Iv A_a.b), (.slice p3 A_a.nums.length q4)] at hB9
  have X13 := Ext.gr (Ext.refl w) E10
  show wpList _ _ _ _ (fr [(.agg #[(Iv A_a.kind), (Iv A_a.a), (Iv A_a.b), (.slice p3 A_a.nums.length q4)]), (Pt b7 0), Ud, Ud, Ud, Ud, Ud, Ud, Ud, Ud, Ud, Ud, Ud, Ud, Ud, Ud, Ud, Ud]) _
  refine seqd rfl rfl (does_alloc z102) ?_; rintro _ w18 ⟨b14, rfl, hb15, hB16, E17⟩
  have n19 : b7 < b14 := Nat.lt_of_lt_of_le (Blk.lt hB9) hb15
  have g20 : w.heap.size ≤ b14 := Nat.le_trans (Below.size X13) hb15
  change Blk _ _ [(Iv 0), (Iv 0), (Iv 0), (.slice none 0 0)] at hB16
  have X21 := Ext.gr X13 E17
  show wpList _ _ _ _ (fr [(.agg #[(Iv A_a.kind), (Iv A_a.a), (Iv A_a.b), (.slice p3 A_a.nums.length q4)]), (Pt b7 0), (Pt b14 0), Ud, Ud, Ud, Ud, Ud, Ud, Ud, Ud, Ud, Ud, Ud, Ud, Ud, Ud, Ud]) _
  refine wpList_nil (hK6 _ _ ?_)
  refine wp_seq_k fun K22 hK22 => ?_
  refine wp_region_lit ?_
  refine seqd rfl rfl (does_alloc z102) ?_; rintro _ w27 ⟨b23, rfl, hb24, hB25, E26⟩
  have n28 : b7 < b23 := Nat.lt_of_lt_of_le (Blk.lt (hB9.ext E17)) hb24
  have n29 : b14 < b23 := Nat.lt_of_lt_of_le (Blk.lt hB16) hb24
  have g30 : w.heap.size ≤ b23 := Nat.le_trans (Below.size X21) hb24
  change Blk _ _ [(Iv 0), (Iv 0), (Iv 0), (.slice none 0 0)] at hB25
  have X31 := Ext.gr X21 E26
  show wpList _ _ _ _ (fr [(.agg #[(Iv A_a.kind), (Iv A_a.a), (Iv A_a.b), (.slice p3 A_a.nums.length q4)]), (Pt b7 0), (Pt b14 0), (Pt b23 0), Ud, Ud, Ud, Ud, Ud, Ud, Ud, Ud, Ud, Ud, Ud, Ud, Ud, Ud]) _
  refine wpList_nil (hK22 _ _ ?_)
  refine wp_seq_k fun K32 hK32 => ?_
  refine wp_region_lit ?_
  refine q_is (l' := [(.agg #[(Iv A_a.kind), (Iv A_a.a), (Iv A_a.b), (.slice p3 A_a.nums.length q4)]), (Pt b7 0), (Pt b14 0), (Pt b23 0), (Pt b7 0), Ud, Ud, Ud, Ud, Ud, Ud, Ud, Ud, Ud, Ud, Ud, Ud, Ud]) rfl rfl (does_fieldAddr (ev rfl) fa99_0) rfl ?_
  refine q_is (l' := [(.agg #[(Iv A_a.kind), (Iv A_a.a), (Iv A_a.b), (.slice p3 A_a.nums.length q4)]), (Pt b7 0), (Pt b14 0), (Pt b23 0), (Pt b7 0), (Iv A_a.kind), Ud, Ud, Ud, Ud, Ud, Ud, Ud, Ud, Ud, Ud, Ud, Ud]) rfl rfl (does_load (u := (Iv A_a.kind)) (ev rfl) Try.isAgg2 (Cells.at (Blk.cells ((hB9.ext E17).ext E26)) 0 rfl)) rfl ?_
  refine q_is (l' := [(.agg #[(Iv A_a.kind), (Iv A_a.a), (Iv A_a.b), (.slice p3 A_a.nums.length q4)]), (Pt b7 0), (Pt b14 0), (Pt b23 0), (Pt b7 0), (Iv A_a.kind), (Pt b23 0), Ud, Ud, Ud, Ud, Ud, Ud, Ud, Ud, Ud, Ud, Ud]) rfl rfl (does_fieldAddr (ev rfl) fa102_0) rfl ?_
  refine seqn rfl rfl (does_store (n := 1) (cs := [(Iv 0), (Iv 0), (Iv 0), (.slice none 0 0)]) (u := (Iv A_a.kind)) (ev rfl) (ev rfl) Try.sizeOf2 rfl hB25 (Nat.le_of_ble_eq_true rfl) rfl) ?_; rintro _ w35 ⟨rfl, W33, hB34⟩
  change Blk _ _ [(Iv A_a.kind), (Iv 0), (Iv 0), (.slice none 0 0)] at hB34
  have X36 := Below.wr X31 W33 g30
  refine wpList_nil (hK32 _ _ ?_)
  refine wp_seq_k fun K37 hK37 => ?_
  refine wp_region_lit ?_
  refine q_is (l' := [(.agg #[(Iv A_a.kind), (Iv A_a.a), (Iv A_a.b), (.slice p3 A_a.nums.length q4)]), (Pt b7 0), (Pt b14 0), (Pt b23 0), (Pt b7 0), (Iv A_a.kind), (Pt b23 0), (Pt b7 1), Ud, Ud, Ud, Ud, Ud, Ud, Ud, Ud, Ud, Ud]) rfl rfl (does_fieldAddr (ev rfl) fa99_1) rfl ?_
  refine q_is (l' := [(.agg #[(Iv A_a.kind), (Iv A_a.a), (Iv A_a.b), (.slice p3 A_a.nums.length q4)]), (Pt b7 0), (Pt b14 0), (Pt b23 0), (Pt b7 0), (Iv A_a.kind), (Pt b23 0), (Pt b7 1), (Iv A_a.a), Ud, Ud, Ud, Ud, Ud, Ud, Ud, Ud, Ud]) rfl rfl (does_load (u := (Iv A_a.a)) (ev rfl) Try.isAgg2 (Cells.at (Blk.cells (((hB9.ext E17).ext E26).wr W33 (Nat.ne_of_lt n28))) 1 rfl)) rfl ?_
  refine q_is (l' := [(.agg #[(Iv A_a.kind), (Iv A_a.a), (Iv A_a.b), (.slice p3 A_a.nums.length q4)]), (Pt b7 0), (Pt b14 0), (Pt b23 0), (Pt b7 0), (Iv A_a.kind), (Pt b23 0), (Pt b7 1), (Iv A_a.a), (Pt b23 1), Ud, Ud, Ud, Ud, Ud, Ud, Ud, Ud]) rfl rfl (does_fieldAddr (ev rfl) fa102_1) rfl ?_
  refine seqn rfl rfl (does_store (n := 1) (cs := [(Iv A_a.kind), (Iv 0), (Iv 0), (.slice none 0 0)]) (u := (Iv A_a.a)) (ev rfl) (ev rfl) Try.sizeOf2 rfl hB34 (Nat.le_of_ble_eq_true rfl) rfl) ?_; rintro _ w40 ⟨rfl, W38, hB39⟩
  change Blk _ _ [(Iv A_a.kind), (Iv A_a.a), (Iv 0), (.slice none 0 0)] at hB39
  have X41 := Below.wr X36 W38 g30
  refine wpList_nil (hK37 _ _ ?_)
  refine wp_seq_k fun K42 hK42 => ?_
  refine wp_region_lit ?_
  refine q_is (l' := [(.agg #[(Iv A_a.kind), (Iv A_a.a), (Iv A_a.b), (.slice p3 A_a.nums.length q4)]), (Pt b7 0), (Pt b14 0), (Pt b23 0), (Pt b7 0), (Iv A_a.kind), (Pt b23 0), (Pt b7 1), (Iv A_a.a), (Pt b23 1), (Pt b7 2), Ud, Ud, Ud, Ud, Ud, Ud, Ud]) rfl rfl (does_fieldAddr (ev rfl) fa99_2) rfl ?_
  refine q_is (l' := [(.agg #[(Iv A_a.kind), (Iv A_a.a), (Iv A_a.b), (.slice p3 A_a.nums.length q4)]), (Pt b7 0), (Pt b14 0), (Pt b23 0), (Pt b7 0), (Iv A_a.kind), (Pt b23 0), (Pt b7 1), (Iv A_a.a), (Pt b23 1), (Pt b7 2), (Iv A_a.b), Ud, Ud, Ud, Ud, Ud, Ud]) rfl rfl (does_load (u := (Iv A_a.b)) (ev rfl) Try.isAgg2 (Cells.at (Blk.cells ((((hB9.ext E17).ext E26).wr W33 (Nat.ne_of_lt n28)).wr W38 (Nat.ne_of_lt n28))) 2 rfl)) rfl ?_
  refine q_is (l' := [(.agg #[(Iv A_a.kind), (Iv A_a.a), (Iv A_a.b), (.slice p3 A_a.nums.length q4)]), (Pt b7 0), (Pt b14 0), (Pt b23 0), (Pt b7 0), (Iv A_a.kind), (Pt b23 0), (Pt b7 1), (Iv A_a.a), (Pt b23 1), (Pt b7 2), (Iv A_a.b), (Pt b23 2), Ud, Ud, Ud, Ud, Ud]) rfl rfl (does_fieldAddr (ev rfl) fa102_2) rfl ?_
  refine seqn rfl rfl (does_store (n := 1) (cs := [(Iv A_a.kind), (Iv A_a.a), (Iv 0), (.slice none 0 0)]) (u := (Iv A_a.b)) (ev rfl) (ev rfl) Try.sizeOf2 rfl hB39 (Nat.le_of_ble_eq_true rfl) rfl) ?_; rintro _ w45 ⟨rfl, W43, hB44⟩
  change Blk _ _ [(Iv A_a.kind), (Iv A_a.a), (Iv A_a.b), (.slice none 0 0)] at hB44
  have X46 := Below.wr X41 W43 g30
  refine wpList_nil (hK42 _ _ ?_)
  refine wp_seq_k fun K47 hK47 => ?_
  refine wp_region_lit ?_
  refine q_is (l' := [(.agg #[(Iv A_a.kind), (Iv A_a.a), (Iv A_a.b), (.slice p3 A_a.nums.length q4)]), (Pt b7 0), (Pt b14 0), (Pt b23 0), (Pt b7 0), (Iv A_a.kind), (Pt b23 0), (Pt b7 1), (Iv A_a.a), (Pt b23 1), (Pt b7 2), (Iv A_a.b), (Pt b23 2), (Pt b7 3), Ud, Ud, Ud, Ud]) rfl rfl (does_fieldAddr (ev rfl) fa99_3) rfl ?_
  refine q_is (l' := [(.agg #[(Iv A_a.kind), (Iv A_a.a), (Iv A_a.b), (.slice p3 A_a.nums.length q4)]), (Pt b7 0), (Pt b14 0), (Pt b23 0), (Pt b7 0), (Iv A_a.kind), (Pt b23 0), (Pt b7 1), (Iv A_a.a), (Pt b23 1), (Pt b7 2), (Iv A_a.b), (Pt b23 2), (Pt b7 3), (.slice p3 A_a.nums.length q4), Ud, Ud, Ud]) rfl rfl (does_load (u := (.slice p3 A_a.nums.length q4)) (ev rfl) Try.isAgg97 (Cells.at (Blk.cells (((((hB9.ext E17).ext E26).wr W33 (Nat.ne_of_lt n28)).wr W38 (Nat.ne_of_lt n28)).wr W43 (Nat.ne_of_lt n28))) 3 rfl)) rfl ?_
  refine seqd rfl rfl (does_call (args := #[(.slice p3 A_a.nums.length q4)]) cal84 (evs rfl) (c_laws_toFloat32S (.slice p3 A_a.nums.length q4) A_a.nums _ (Sl.ext hs5 RF.mono X46) (by omega))) ?_; rintro _ w49 ⟨E48, ⟨y51, Lw52, rfl, hh50, hw53⟩⟩
  have X54 := Ext.gr X46 E48
  have n55 : b7 < w45.heap.size := Blk.lt (((((hB9.ext E17).ext E26).wr W33 (Nat.ne_of_lt n28)).wr W38 (Nat.ne_of_lt n28)).wr W43 (Nat.ne_of_lt n28))
  have n56 : b14 < w45.heap.size := Blk.lt ((((hB16.ext E26).wr W33 (Nat.ne_of_lt n29)).wr W38 (Nat.ne_of_lt n29)).wr W43 (Nat.ne_of_lt n29))
  have n57 : b23 < w45.heap.size := Blk.lt hB44
  obtain ⟨p58, q59, rfl⟩ := Sl.shape hh50.get
  have hw60 : WL 1 w45.heap.size w49 Lw52 (.slice p58 A_a.nums.length q59) A_a.nums.length := hw53
  show wpList _ _ _ _ (fr [(.agg #[(Iv A_a.kind), (Iv A_a.a), (Iv A_a.b), (.slice p3 A_a.nums.length q4)]), (Pt b7 0), (Pt b14 0), (Pt b23 0), (Pt b7 0), (Iv A_a.kind), (Pt b23 0), (Pt b7 1), (Iv A_a.a), (Pt b23 1), (Pt b7 2), (Iv A_a.b), (Pt b23 2), (Pt b7 3), (.slice p3 A_a.nums.length q4), (.slice p58 A_a.nums.length q59), Ud, Ud]) _
  refine q_is (l' := [(.agg #[(Iv A_a.kind), (Iv A_a.a), (Iv A_a.b), (.slice p3 A_a.nums.length q4)]), (Pt b7 0), (Pt b14 0), (Pt b23 0), (Pt b7 0), (Iv A_a.kind), (Pt b23 0), (Pt b7 1), (Iv A_a.a), (Pt b23 1), (Pt b7 2), (Iv A_a.b), (Pt b23 2), (Pt b7 3), (.slice p3 A_a.nums.length q4), (.slice p58 A_a.nums.length q59), (Pt b23 3), Ud]) rfl rfl (does_fieldAddr (ev rfl) fa102_3) rfl ?_
  refine seqn rfl rfl (does_store (n := 1) (cs := [(Iv A_a.kind), (Iv A_a.a), (Iv A_a.b), (.slice none 0 0)]) (u := (.slice p58 A_a.nums.length q59)) (ev rfl) (ev rfl) Try.sizeOf97 rfl (hB44.ext E48) (Nat.le_of_ble_eq_true rfl) rfl) ?_; rintro _ w63 ⟨rfl, W61, hB62⟩
  change Blk _ _ [(Iv A_a.kind), (Iv A_a.a), (Iv A_a.b), (.slice p58 A_a.nums.length q59)] at hB62
  have X64 := Below.wr X54 W61 g30
  refine wpList_nil (hK47 _ _ ?_)
  refine wp_seq_k fun K65 hK65 => ?_
  refine wp_region_lit ?_
  refine q_is (l' := [(.agg #[(Iv A_a.kind), (Iv A_a.a), (Iv A_a.b), (.slice p3 A_a.nums.length q4)]), (Pt b7 0), (Pt b14 0), (Pt b23 0), (Pt b7 0), (Iv A_a.kind), (Pt b23 0), (Pt b7 1), (Iv A_a.a), (Pt b23 1), (Pt b7 2), (Iv A_a.b), (Pt b23 2), (Pt b7 3), (.slice p3 A_a.nums.length q4), (.slice p58 A_a.nums.length q59), (Pt b23 3), (.agg #[(Iv A_a.kind), (Iv A_a.a), (Iv A_a.b), (.slice p58 A_a.nums.length q59)])]) rfl rfl (does_loadAgg (cs := [(Iv A_a.kind), (Iv A_a.a), (Iv A_a.b), (.slice p58 A_a.nums.length q59)]) (ev rfl) Try.isAgg102 Try.sizeOf102 (Blk.cells hB62) rfl) rfl ?_
  refine seqn rfl rfl (does_store (n := 4) (cs := [(Iv 0), (Iv 0), (Iv 0), (.slice none 0 0)]) (u := (.agg #[(Iv A_a.kind), (Iv A_a.a), (Iv A_a.b), (.slice p58 A_a.nums.length q59)])) (ev rfl) (ev rfl) Try.sizeOf102 rfl ((((((hB16.ext E26).wr W33 (Nat.ne_of_lt n29)).wr W38 (Nat.ne_of_lt n29)).wr W43 (Nat.ne_of_lt n29)).ext E48).wr W61 (Nat.ne_of_lt n29)) (Nat.le_of_ble_eq_true rfl) rfl) ?_; rintro _ w68 ⟨rfl, W66, hB67⟩
  change Blk _ _ [(Iv A_a.kind), (Iv A_a.a), (Iv A_a.b), (.slice p58 A_a.nums.length q59)] at hB67
  have X69 := Below.wr X64 W66 g20
  refine wpList_nil (hK65 _ _ ?_)
  refine wp_ret ?_
  refine ret_val (v := (.agg #[(Iv A_a.kind), (Iv A_a.a), (Iv A_a.b), (.slice p58 A_a.nums.length q59)])) (res_C rfl (slot rfl) (run_loadAgg (cs := [(Iv A_a.kind), (Iv A_a.a), (Iv A_a.b), (.slice p58 A_a.nums.length q59)]) Try.isAgg102 Try.sizeOf102 (Blk.cells hB67) rfl)) X69 ?_
  exact ⟨[(Iv A_a.kind), (Iv A_a.a), (Iv A_a.b), (.slice p58 A_a.nums.length q59)], rfl, fun u hu => ⟨(.slice p58 A_a.nums.length q59), rfl, ((Hang.to hh50 (((Same.refl _ _).wr W61 (.inl n57)).wr W66 (.inl n56))).le (Below.size (Below.wr (Below.wr (Below.wr (Ext.gr (Ext.gr (Ext.gr (Ext.refl _) E10) E17) E26) W33 g30) W38 g30) W43 g30))) u hu⟩⟩

/- laws.toNodeS -/
theorem c_laws_toNodeS (a : Value) (L_a : List NodeT) (w : World) (hv_a : Sl RNodeT 4 w a L_a) (hsz : L_a.length ≤ 1048576) (hall : ∀ s ∈ L_a, s.nums.length ≤ 1048576) : Gives Try.prog 25 #[a] w (fun v w' => ∃ y_1 : Value, v = y_1 ∧ Hang w.heap.size w' (fun u => Sl RNodeT 4 u y_1 L_a)) := by
  have hlen_a := Sl.len hv_a; obtain ⟨p_a, q_a, rfl⟩ := Sl.shape hv_a
  refine enter [(.slice p_a L_a.length q_a), Ud, Ud, Ud, Ud, Ud, Ud, Ud, Ud, Ud, Ud, Ud, Ud, Ud, Ud, Ud, Ud, Ud, Ud, Ud, Ud, Ud, Ud] Try.func25 rfl Try.ntmps25 rfl ?_
  refine wp_seq_k fun K1 hK1 => ?_
  refine wp_region_lit ?_
  refine q_is (l' := [(.slice p_a L_a.length q_a), Ud, (.slice none 0 0), Ud, Ud, Ud, Ud, Ud, Ud, Ud, Ud, Ud, Ud, Ud, Ud, Ud, Ud, Ud, Ud, Ud, Ud, Ud, Ud]) rfl rfl (does_assign (u := (.slice none 0 0)) (ev rfl)) rfl ?_
  refine wpList_nil (hK1 _ _ ?_)
  refine wp_seq_k fun K2 hK2 => ?_
  refine wp_region_lit ?_
  refine q_is (l' := [(.slice p_a L_a.length q_a), Ud, (.slice none 0 0), Ud, Ud, (.slice p_a L_a.length q_a), Ud, Ud, Ud, Ud, Ud, Ud, Ud, Ud, Ud, Ud, Ud, Ud, Ud, Ud, Ud, Ud, Ud]) rfl rfl (does_move (u := (.slice p_a L_a.length q_a)) (ev rfl)) rfl ?_
  refine q_is (l' := [(.slice p_a L_a.length q_a), Ud, (.slice none 0 0), Ud, Ud, (.slice p_a L_a.length q_a), (Iv (L_a.length : Int)), Ud, Ud, Ud, Ud, Ud, Ud, Ud, Ud, Ud, Ud, Ud, Ud, Ud, Ud, Ud, Ud]) rfl rfl (does_len_slice Try.underlying22 (ev rfl)) rfl ?_
  refine seqd rfl rfl (does_makeSlice (n := L_a.length) Try.underlying28 inf102 (ev rfl) (ev rfl) (by omega)) ?_; rintro _ w7 ⟨b3, rfl, hb4, ⟨cs8, hB5, hl9, hz10⟩, E6⟩
  have g11 : w.heap.size ≤ b3 := Nat.le_trans (Below.size (Ext.refl w)) hb4
  have X12 := Ext.gr (Ext.refl w) E6
  show wpList _ _ _ _ (fr [(.slice p_a L_a.length q_a), Ud, (.slice none 0 0), Ud, Ud, (.slice p_a L_a.length q_a), (Iv (L_a.length : Int)), (.slice (some ⟨b3, 0, none⟩) L_a.length L_a.length), Ud, Ud, Ud, Ud, Ud, Ud, Ud, Ud, Ud, Ud, Ud, Ud, Ud, Ud, Ud]) _
  refine q_is (l' := [(.slice p_a L_a.length q_a), Ud, (.slice none 0 0), (.slice (some ⟨b3, 0, none⟩) L_a.length L_a.length), Ud, (.slice p_a L_a.length q_a), (Iv (L_a.length : Int)), (.slice (some ⟨b3, 0, none⟩) L_a.length L_a.length), Ud, Ud, Ud, Ud, Ud, Ud, Ud, Ud, Ud, Ud, Ud, Ud, Ud, Ud, Ud]) rfl rfl (does_assign (u := (.slice (some ⟨b3, 0, none⟩) L_a.length L_a.length)) (ev rfl)) rfl ?_
  refine wpList_nil (hK2 _ _ ?_)
  refine wp_seq_k fun K13 hK13 => ?_
  refine wp_seq_k fun K14 hK14 => ?_
  refine wp_region_lit ?_
  refine q_is (l' := [(.slice p_a L_a.length q_a), Ud, (.slice none 0 0), (.slice (some ⟨b3, 0, none⟩) L_a.length L_a.length), (Iv 0), (.slice p_a L_a.length q_a), (Iv (L_a.length : Int)), (.slice (some ⟨b3, 0, none⟩) L_a.length L_a.length), Ud, Ud, Ud, Ud, Ud, Ud, Ud, Ud, Ud, Ud, Ud, Ud, Ud, Ud, Ud]) rfl rfl (does_assign (u := (Iv 0)) (ev rfl)) rfl ?_
  refine wpList_nil (hK14 _ _ ?_)
  refine wp_block ?_
  have hF0 : FillH RNodeT 4 w7 b3 L_a.length L_a 0 := FillH.zero hB5 hl9
  refine loop_ghost (σ := Nat) (fun k a w' => ∃ u15 : Nat → Value, a = fr [(.slice p_a L_a.length q_a), Ud, (.slice none 0 0), (.slice (some ⟨b3, 0, none⟩) L_a.length L_a.length), (Iv (k : Int)), (.slice p_a L_a.length q_a), (Iv (L_a.length : Int)), (.slice (some ⟨b3, 0, none⟩) L_a.length L_a.length), (u15 8), (u15 9), (u15 10), (u15 11), (u15 12), (u15 13), (u15 14), (u15 15), (u15 16), (u15 17), (u15 18), (u15 19), (u15 20), (u15 21), Ud] ∧ KpL [b3] w7 w' ∧ FillH RNodeT 4 w' b3 L_a.length L_a k ∧ (k ≤ L_a.length)) (fun k => L_a.length - k) 0 ?_ ?_
  · refine ⟨fun t => (([(.slice p_a L_a.length q_a), Ud, (.slice none 0 0), (.slice (some ⟨b3, 0, none⟩) L_a.length L_a.length), (Iv 0), (.slice p_a L_a.length q_a), (Iv (L_a.length : Int)), (.slice (some ⟨b3, 0, none⟩) L_a.length L_a.length), Ud, Ud, Ud, Ud, Ud, Ud, Ud, Ud, Ud, Ud, Ud, Ud, Ud, Ud, Ud] : List Value)[t]?).getD undef, rfl, KpL.refl _ _, hF0, ?_⟩
    exact Nat.zero_le _
  · rintro k a w16 ⟨u15, rfl, E17, hF18, hk⟩
    have X19 := Below.kl X12 E17 (allS g11 all0) (Nat.le_refl _)
    refine wp_seq_k fun K20 hK20 => ?_
    refine wp_seq_k fun K21 hK21 => ?_
    refine wp_region_lit ?_
    refine q_is (l' := [(.slice p_a L_a.length q_a), Ud, (.slice none 0 0), (.slice (some ⟨b3, 0, none⟩) L_a.length L_a.length), (Iv (k : Int)), (.slice p_a L_a.length q_a), (Iv (L_a.length : Int)), (.slice (some ⟨b3, 0, none⟩) L_a.length L_a.length), (Iv (k : Int)), (u15 9), (u15 10), (u15 11), (u15 12), (u15 13), (u15 14), (u15 15), (u15 16), (u15 17), (u15 18), (u15 19), (u15 20), (u15 21), Ud]) rfl rfl (does_move (u := (Iv (k : Int))) (ev rfl)) rfl ?_
    refine q_is (l' := [(.slice p_a L_a.length q_a), Ud, (.slice none 0 0), (.slice (some ⟨b3, 0, none⟩) L_a.length L_a.length), (Iv (k : Int)), (.slice p_a L_a.length q_a), (Iv (L_a.length : Int)), (.slice (some ⟨b3, 0, none⟩) L_a.length L_a.length), (Iv (k : Int)), (.slice p_a L_a.length q_a), (u15 10), (u15 11), (u15 12), (u15 13), (u15 14), (u15 15), (u15 16), (u15 17), (u15 18), (u15 19), (u15 20), (u15 21), Ud]) rfl rfl (does_move (u := (.slice p_a L_a.length q_a)) (ev rfl)) rfl ?_
    refine q_is (l' := [(.slice p_a L_a.length q_a), Ud, (.slice none 0 0), (.slice (some ⟨b3, 0, none⟩) L_a.length L_a.length), (Iv (k : Int)), (.slice p_a L_a.length q_a), (Iv (L_a.length : Int)), (.slice (some ⟨b3, 0, none⟩) L_a.length L_a.length), (Iv (k : Int)), (.slice p_a L_a.length q_a), (Iv (L_a.length : Int)), (u15 11), (u15 12), (u15 13), (u15 14), (u15 15), (u15 16), (u15 17), (u15 18), (u15 19), (u15 20), (u15 21), Ud]) rfl rfl (does_len_slice Try.underlying22 (ev rfl)) rfl ?_
    refine q_is (l' := [(.slice p_a L_a.length q_a), Ud, (.slice none 0 0), (.slice (some ⟨b3, 0, none⟩) L_a.length L_a.length), (Iv (k : Int)), (.slice p_a L_a.length q_a), (Iv (L_a.length : Int)), (.slice (some ⟨b3, 0, none⟩) L_a.length L_a.length), (Iv (k : Int)), (.slice p_a L_a.length q_a), (Iv (L_a.length : Int)), (Bo (icmp .lss (k : Int) (L_a.length : Int))), (u15 12), (u15 13), (u15 14), (u15 15), (u15 16), (u15 17), (u15 18), (u15 19), (u15 20), (u15 21), Ud]) rfl rfl (does_icmp (p := (k : Int)) (q := (L_a.length : Int)) (.inr (.inr (.inl rfl))) (ev rfl) (ev rfl)) rfl ?_
    refine wpList_nil (hK21 _ _ ?_)
    refine wp_cond_split (t := icmp .lss (k : Int) (L_a.length : Int)) (ev rfl) (fun c22 => ?_) (fun c22 => ?_)
    · have c22' := c22
      (try simp only [icmp, Bool.and_eq_true, Bool.or_eq_true, Bool.and_eq_false_iff, Bool.or_eq_false_iff, Bool.not_eq_true', Bool.not_eq_false', decide_eq_true_eq, decide_eq_false_iff_not, beq_iff_eq, bne_iff_ne, beq_eq_false_iff_ne, bne_eq_false_iff_eq] at c22')
      refine wp_skip (hK20 _ _ ?_)
      refine wp_seq_k fun K23 hK23 => ?_
      refine wp_block ?_
      refine wp_region_lit ?_
      refine q_is (l' := [(.slice p_a L_a.length q_a), Ud, (.slice none 0 0), (.slice (some ⟨b3, 0, none⟩) L_a.length L_a.length), (Iv (k : Int)), (.slice p_a L_a.length q_a), (Iv (L_a.length : Int)), (.slice (some ⟨b3, 0, none⟩) L_a.length L_a.length), (Iv (k : Int)), (.slice p_a L_a.length q_a), (Iv (L_a.length : Int)), (Bo (icmp .lss (k : Int) (L_a.length : Int))), (u15 12), (u15 13), (.slice (some ⟨b3, 0, none⟩) L_a.length L_a.length), (u15 15), (u15 16), (u15 17), (u15 18), (u15 19), (u15 20), (u15 21), Ud]) rfl rfl (does_move (u := (.slice (some ⟨b3, 0, none⟩) L_a.length L_a.length)) (ev rfl)) rfl ?_
      refine q_is (l' := [(.slice p_a L_a.length q_a), Ud, (.slice none 0 0), (.slice (some ⟨b3, 0, none⟩) L_a.length L_a.length), (Iv (k : Int)), (.slice p_a L_a.length q_a), (Iv (L_a.length : Int)), (.slice (some ⟨b3, 0, none⟩) L_a.length L_a.length), (Iv (k : Int)), (.slice p_a L_a.length q_a), (Iv (L_a.length : Int)), (Bo (icmp .lss (k : Int) (L_a.length : Int))), (u15 12), (u15 13), (.slice (some ⟨b3, 0, none⟩) L_a.length L_a.length), (Iv (k : Int)), (u15 16), (u15 17), (u15 18), (u15 19), (u15 20), (u15 21), Ud]) rfl rfl (does_move (u := (Iv (k : Int))) (ev rfl)) rfl ?_
      refine q_is (l' := [(.slice p_a L_a.length q_a), Ud, (.slice none 0 0), (.slice (some ⟨b3, 0, none⟩) L_a.length L_a.length), (Iv (k : Int)), (.slice p_a L_a.length q_a), (Iv (L_a.length : Int)), (.slice (some ⟨b3, 0, none⟩) L_a.length L_a.length), (Iv (k : Int)), (.slice p_a L_a.length q_a), (Iv (L_a.length : Int)), (Bo (icmp .lss (k : Int) (L_a.length : Int))), (u15 12), (u15 13), (.slice (some ⟨b3, 0, none⟩) L_a.length L_a.length), (Iv (k : Int)), (.slice p_a L_a.length q_a), (u15 17), (u15 18), (u15 19), (u15 20), (u15 21), Ud]) rfl rfl (does_move (u := (.slice p_a L_a.length q_a)) (ev rfl)) rfl ?_
      refine q_is (l' := [(.slice p_a L_a.length q_a), Ud, (.slice none 0 0), (.slice (some ⟨b3, 0, none⟩) L_a.length L_a.length), (Iv (k : Int)), (.slice p_a L_a.length q_a), (Iv (L_a.length : Int)), (.slice (some ⟨b3, 0, none⟩) L_a.length L_a.length), (Iv (k : Int)), (.slice p_a L_a.length q_a), (Iv (L_a.length : Int)), (Bo (icmp .lss (k : Int) (L_a.length : Int))), (u15 12), (u15 13), (.slice (some ⟨b3, 0, none⟩) L_a.length L_a.length), (Iv (k : Int)), (.slice p_a L_a.length q_a), (Iv (k : Int)), (u15 18), (u15 19), (u15 20), (u15 21), Ud]) rfl rfl (does_move (u := (Iv (k : Int))) (ev rfl)) rfl ?_
      obtain ⟨el1, hel1⟩ : ∃ e, L_a[k]? = some e := ⟨_, List.getElem?_eq_getElem (by omega)⟩
      refine seqd rfl rfl (does_indexSl (R := RNodeT) (i := (k : Int)) (xs := L_a) (e := el1) Try.underlying22 Try.sizeOf99 (ev rfl) (ev rfl) (Sl.ext hv_a RNodeT.mono X19) (by omega) hel1) ?_; rintro _ w16 ⟨b24, o25, _, rfl, hc27, ⟨y28, rfl, h29⟩, rfl⟩
      have hs32 := h29; have hs32l := Sl.len h29; obtain ⟨p30, q31, rfl⟩ := Sl.shape h29
      show wpList _ _ _ _ (fr [(.slice p_a L_a.length q_a), Ud, (.slice none 0 0), (.slice (some ⟨b3, 0, none⟩) L_a.length L_a.length), (Iv (k : Int)), (.slice p_a L_a.length q_a), (Iv (L_a.length : Int)), (.slice (some ⟨b3, 0, none⟩) L_a.length L_a.length), (Iv (k : Int)), (.slice p_a L_a.length q_a), (Iv (L_a.length : Int)), (Bo (icmp .lss (k : Int) (L_a.length : Int))), (u15 12), (u15 13), (.slice (some ⟨b3, 0, none⟩) L_a.length L_a.length), (Iv (k : Int)), (.slice p_a L_a.length q_a), (Iv (k : Int)), (Pt b24 o25), (u15 19), (u15 20), (u15 21), Ud]) _
      refine q_is (l' := [(.slice p_a L_a.length q_a), Ud, (.slice none 0 0), (.slice (some ⟨b3, 0, none⟩) L_a.length L_a.length), (Iv (k : Int)), (.slice p_a L_a.length q_a), (Iv (L_a.length : Int)), (.slice (some ⟨b3, 0, none⟩) L_a.length L_a.length), (Iv (k : Int)), (.slice p_a L_a.length q_a), (Iv (L_a.length : Int)), (Bo (icmp .lss (k : Int) (L_a.length : Int))), (u15 12), (u15 13), (.slice (some ⟨b3, 0, none⟩) L_a.length L_a.length), (Iv (k : Int)), (.slice p_a L_a.length q_a), (Iv (k : Int)), (Pt b24 o25), (.agg #[(Iv el1.kind), (Iv el1.a), (Iv el1.b), (.slice p30 el1.nums.length q31)]), (u15 20), (u15 21), Ud]) rfl rfl (does_loadAgg (cs := [(Iv el1.kind), (Iv el1.a), (Iv el1.b), (.slice p30 el1.nums.length q31)]) (ev rfl) Try.isAgg99 Try.sizeOf99 hc27 rfl) rfl ?_
      refine seqd rfl rfl (does_call (args := #[(.agg #[(Iv el1.kind), (Iv el1.a), (Iv el1.b), (.slice p30 el1.nums.length q31)])]) cal54 (evs rfl) (c_laws_toNode [(Iv el1.kind), (Iv el1.a), (Iv el1.b), (.slice p30 el1.nums.length q31)] el1 _ ⟨(.slice p30 el1.nums.length q31), rfl, hs32⟩ (by exact hall _ (List.mem_of_getElem? (by assumption))))) ?_; rintro _ w34 ⟨E33, ⟨cs36, rfl, hh35⟩⟩
      have X37 := Ext.gr X19 E33
      obtain ⟨y39, rfl, h40⟩ := hh35.get
      have h40l := Sl.len h40; obtain ⟨p41, q42, rfl⟩ := Sl.shape h40
      have hh43 : Hang w16.heap.size w34 (fun u => Sl RF 1 u (.slice p41 el1.nums.length q42) el1.nums) := fun u hu => by obtain ⟨_, hq, _⟩ := hh35 u hu; cases hq; assumption
      show wpList _ _ _ _ (fr [(.slice p_a L_a.length q_a), Ud, (.slice none 0 0), (.slice (some ⟨b3, 0, none⟩) L_a.length L_a.length), (Iv (k : Int)), (.slice p_a L_a.length q_a), (Iv (L_a.length : Int)), (.slice (some ⟨b3, 0, none⟩) L_a.length L_a.length), (Iv (k : Int)), (.slice p_a L_a.length q_a), (Iv (L_a.length : Int)), (Bo (icmp .lss (k : Int) (L_a.length : Int))), (u15 12), (u15 13), (.slice (some ⟨b3, 0, none⟩) L_a.length L_a.length), (Iv (k : Int)), (.slice p_a L_a.length q_a), (Iv (k : Int)), (Pt b24 o25), (.agg #[(Iv el1.kind), (Iv el1.a), (Iv el1.b), (.slice p30 el1.nums.length q31)]), (.agg #[(Iv el1.kind), (Iv el1.a), (Iv el1.b), (.slice p41 el1.nums.length q42)]), (u15 21), Ud]) _
      refine q_is (l' := [(.slice p_a L_a.length q_a), Ud, (.slice none 0 0), (.slice (some ⟨b3, 0, none⟩) L_a.length L_a.length), (Iv (k : Int)), (.slice p_a L_a.length q_a), (Iv (L_a.length : Int)), (.slice (some ⟨b3, 0, none⟩) L_a.length L_a.length), (Iv (k : Int)), (.slice p_a L_a.length q_a), (Iv (L_a.length : Int)), (Bo (icmp .lss (k : Int) (L_a.length : Int))), (u15 12), (u15 13), (.slice (some ⟨b3, 0, none⟩) L_a.length L_a.length), (Iv (k : Int)), (.slice p_a L_a.length q_a), (Iv (k : Int)), (Pt b24 o25), (.agg #[(Iv el1.kind), (Iv el1.a), (Iv el1.b), (.slice p30 el1.nums.length q31)]), (.agg #[(Iv el1.kind), (Iv el1.a), (Iv el1.b), (.slice p41 el1.nums.length q42)]), (Pt b3 (k * 4)), Ud]) rfl rfl (does_indexOwn (b := b3) (n := L_a.length) (i := (k : Int)) Try.underlying28 Try.sizeOf102 (ev rfl) (ev rfl) (by omega) (by omega)) rfl ?_
      have hh44 := Hang.le hh43 (Nat.succ_le_of_lt (FillH.lt hF18))
      refine seqn rfl rfl (does_fillH (R := RNodeT) (k := 4) (n := L_a.length) (j := k) (xs := L_a) (u := (.agg #[(Iv el1.kind), (Iv el1.a), (Iv el1.b), (.slice p41 el1.nums.length q42)])) (e := el1) (ev rfl) (ev rfl) Try.sizeOf102 rfl rfl (FillH.ext hF18 RNodeT.mono E33) (by omega) hel1 (fun u hu => ⟨(.slice p41 el1.nums.length q42), rfl, (hh44 u hu)⟩)) ?_; rintro _ w47 ⟨rfl, W45, hF46⟩
      have X48 := Below.wr X37 W45 g11
      refine wpList_nil (hK23 _ _ ?_)
      refine wp_region_lit ?_
      refine q_is (l' := [(.slice p_a L_a.length q_a), Ud, (.slice none 0 0), (.slice (some ⟨b3, 0, none⟩) L_a.length L_a.length), (Iv (k : Int)), (.slice p_a L_a.length q_a), (Iv (L_a.length : Int)), (.slice (some ⟨b3, 0, none⟩) L_a.length L_a.length), (Iv (k : Int)), (.slice p_a L_a.length q_a), (Iv (L_a.length : Int)), (Bo (icmp .lss (k : Int) (L_a.length : Int))), (Iv (k : Int)), (u15 13), (.slice (some ⟨b3, 0, none⟩) L_a.length L_a.length), (Iv (k : Int)), (.slice p_a L_a.length q_a), (Iv (k : Int)), (Pt b24 o25), (.agg #[(Iv el1.kind), (Iv el1.a), (Iv el1.b), (.slice p30 el1.nums.length q31)]), (.agg #[(Iv el1.kind), (Iv el1.a), (Iv el1.b), (.slice p41 el1.nums.length q42)]), (Pt b3 (k * 4)), Ud]) rfl rfl (does_move (u := (Iv (k : Int))) (ev rfl)) rfl ?_
      refine q_is (l' := [(.slice p_a L_a.length q_a), Ud, (.slice none 0 0), (.slice (some ⟨b3, 0, none⟩) L_a.length L_a.length), (Iv (k : Int)), (.slice p_a L_a.length q_a), (Iv (L_a.length : Int)), (.slice (some ⟨b3, 0, none⟩) L_a.length L_a.length), (Iv (k : Int)), (.slice p_a L_a.length q_a), (Iv (L_a.length : Int)), (Bo (icmp .lss (k : Int) (L_a.length : Int))), (Iv (k : Int)), (Iv ((k : Int) + 1)), (.slice (some ⟨b3, 0, none⟩) L_a.length L_a.length), (Iv (k : Int)), (.slice p_a L_a.length q_a), (Iv (k : Int)), (Pt b24 o25), (.agg #[(Iv el1.kind), (Iv el1.a), (Iv el1.b), (.slice p30 el1.nums.length q31)]), (.agg #[(Iv el1.kind), (Iv el1.a), (Iv el1.b), (.slice p41 el1.nums.length q42)]), (Pt b3 (k * 4)), Ud]) rfl rfl (does_iarith (p := (k : Int)) (q := 1) (r := (k : Int) + 1) (ev rfl) (ev rfl) (.inl ⟨rfl, (in_i64 (by omega) (by omega)).symm⟩)) rfl ?_
      refine q_is (l' := [(.slice p_a L_a.length q_a), Ud, (.slice none 0 0), (.slice (some ⟨b3, 0, none⟩) L_a.length L_a.length), (Iv ((k : Int) + 1)), (.slice p_a L_a.length q_a), (Iv (L_a.length : Int)), (.slice (some ⟨b3, 0, none⟩) L_a.length L_a.length), (Iv (k : Int)), (.slice p_a L_a.length q_a), (Iv (L_a.length : Int)), (Bo (icmp .lss (k : Int) (L_a.length : Int))), (Iv (k : Int)), (Iv ((k : Int) + 1)), (.slice (some ⟨b3, 0, none⟩) L_a.length L_a.length), (Iv (k : Int)), (.slice p_a L_a.length q_a), (Iv (k : Int)), (Pt b24 o25), (.agg #[(Iv el1.kind), (Iv el1.a), (Iv el1.b), (.slice p30 el1.nums.length q31)]), (.agg #[(Iv el1.kind), (Iv el1.a), (Iv el1.b), (.slice p41 el1.nums.length q42)]), (Pt b3 (k * 4)), Ud]) rfl rfl (does_assign (u := (Iv ((k : Int) + 1))) (ev rfl)) rfl ?_
      refine wpList_nil ?_
      refine ⟨k + 1, ⟨fun t => (([(.slice p_a L_a.length q_a), Ud, (.slice none 0 0), (.slice (some ⟨b3, 0, none⟩) L_a.length L_a.length), (Iv ((k : Int) + 1)), (.slice p_a L_a.length q_a), (Iv (L_a.length : Int)), (.slice (some ⟨b3, 0, none⟩) L_a.length L_a.length), (Iv (k : Int)), (.slice p_a L_a.length q_a), (Iv (L_a.length : Int)), (Bo (icmp .lss (k : Int) (L_a.length : Int))), (Iv (k : Int)), (Iv ((k : Int) + 1)), (.slice (some ⟨b3, 0, none⟩) L_a.length L_a.length), (Iv (k : Int)), (.slice p_a L_a.length q_a), (Iv (k : Int)), (Pt b24 o25), (.agg #[(Iv el1.kind), (Iv el1.a), (Iv el1.b), (.slice p30 el1.nums.length q31)]), (.agg #[(Iv el1.kind), (Iv el1.a), (Iv el1.b), (.slice p41 el1.nums.length q42)]), (Pt b3 (k * 4)), Ud] : List Value)[t]?).getD undef, ?_, (KpL.more (KpL.ext E17 E33) (KpL.of_wr W45) (allS (.inl (by simp)) all0)), hF46, ?_⟩, ?_⟩
      · first | rfl | (simp only [Int.natCast_add, Int.natCast_one]; rfl)
      · omega
      · omega
    have c22' := c22
    (try simp only [icmp, Bool.and_eq_true, Bool.or_eq_true, Bool.and_eq_false_iff, Bool.or_eq_false_iff, Bool.not_eq_true', Bool.not_eq_false', decide_eq_true_eq, decide_eq_false_iff_not, beq_iff_eq, bne_iff_ne, beq_eq_false_iff_ne, bne_eq_false_iff_eq] at c22')
    refine wp_exit ?_
    refine hK13 _ _ ?_
    refine wp_seq_k fun K49 hK49 => ?_
    refine wp_region_lit ?_
    refine q_is (l' := [(.slice p_a L_a.length q_a), Ud, (.slice none 0 0), (.slice (some ⟨b3, 0, none⟩) L_a.length L_a.length), (Iv (k : Int)), (.slice p_a L_a.length q_a), (Iv (L_a.length : Int)), (.slice (some ⟨b3, 0, none⟩) L_a.length L_a.length), (Iv (k : Int)), (.slice p_a L_a.length q_a), (Iv (L_a.length : Int)), (Bo (icmp .lss (k : Int) (L_a.length : Int))), (u15 12), (u15 13), (u15 14), (u15 15), (u15 16), (u15 17), (u15 18), (u15 19), (u15 20), (u15 21), (.slice (some ⟨b3, 0, none⟩) L_a.length L_a.length)]) rfl rfl (does_move (u := (.slice (some ⟨b3, 0, none⟩) L_a.length L_a.length)) (ev rfl)) rfl ?_
    refine q_is (l' := [(.slice p_a L_a.length q_a), Ud, (.slice (some ⟨b3, 0, none⟩) L_a.length L_a.length), (.slice (some ⟨b3, 0, none⟩) L_a.length L_a.length), (Iv (k : Int)), (.slice p_a L_a.length q_a), (Iv (L_a.length : Int)), (.slice (some ⟨b3, 0, none⟩) L_a.length L_a.length), (Iv (k : Int)), (.slice p_a L_a.length q_a), (Iv (L_a.length : Int)), (Bo (icmp .lss (k : Int) (L_a.length : Int))), (u15 12), (u15 13), (u15 14), (u15 15), (u15 16), (u15 17), (u15 18), (u15 19), (u15 20), (u15 21), (.slice (some ⟨b3, 0, none⟩) L_a.length L_a.length)]) rfl rfl (does_assign (u := (.slice (some ⟨b3, 0, none⟩) L_a.length L_a.length)) (ev rfl)) rfl ?_
    refine wpList_nil (hK49 _ _ ?_)
    refine wp_ret ?_
    refine ret_val (v := (.slice (some ⟨b3, 0, none⟩) L_a.length L_a.length)) (res_T rfl (slot rfl)) X19 ?_
    exact ⟨(.slice (some ⟨b3, 0, none⟩) L_a.length L_a.length), rfl, (FillH.hang hF18 g11 (by omega) rfl (by omega) (by decide))⟩

/- laws.toShape -/
theorem c_laws_toShape (a : List Value) (A_a : ShapeT) (w : World) (hv_a : RShapeT w A_a a) (hst : ndTot A_a.nodes ≤ 1048576) : Gives Try.prog 8 #[(.agg a.toArray)] w (fun v w' => ∃ cs_1 : List Value, v = (.agg cs_1.toArray) ∧ Hang w.heap.size w' (fun u => RShapeT u A_a cs_1)) := by
  obtain ⟨y1, rfl, h2⟩ := hv_a
  have hs5 := h2; have hs5l := Sl.len h2; obtain ⟨p3, q4, rfl⟩ := Sl.shape h2
  have hse := ndTot_each hst
  refine enter [(.agg #[(.slice p3 A_a.nodes.length q4)]), Ud, Ud, Ud, Ud, Ud, Ud, Ud, Ud] Try.func8 rfl Try.ntmps8 rfl ?_
  refine wp_seq_k fun K6 hK6 => ?_
  refine wp_region_lit ?_
  refine seqd rfl rfl (does_box (u := (.agg #[(.slice p3 A_a.nodes.length q4)])) (ev rfl)) ?_; rintro _ w11 ⟨b7, rfl, hb8, hB9, E10⟩
  have g12 : w.heap.size ≤ b7 := Nat.le_trans (Below.size (Ext.refl w)) hb8
  change Blk _ _ [(.slice p3 A_a.nodes.length q4)] at hB9
  have X13 := Ext.gr (Ext.refl w) E10
  show wpList _ _ _ _ (fr [(.agg #[(.slice p3 A_a.nodes.length q4)]), (Pt b7 0), Ud, Ud, Ud, Ud, Ud, Ud, Ud]) _
  refine seqd rfl rfl (does_alloc z30) ?_; rintro _ w18 ⟨b14, rfl, hb15, hB16, E17⟩
  have n19 : b7 < b14 := Nat.lt_of_lt_of_le (Blk.lt hB9) hb15
  have g20 : w.heap.size ≤ b14 := Nat.le_trans (Below.size X13) hb15
  change Blk _ _ [(.slice none 0 0)] at hB16
  have X21 := Ext.gr X13 E17
  show wpList _ _ _ _ (fr [(.agg #[(.slice p3 A_a.nodes.length q4)]), (Pt b7 0), (Pt b14 0), Ud, Ud, Ud, Ud, Ud, Ud]) _
  refine wpList_nil (hK6 _ _ ?_)
  refine wp_seq_k fun K22 hK22 => ?_
  refine wp_region_lit ?_
  refine seqd rfl rfl (does_alloc z30) ?_; rintro _ w27 ⟨b23, rfl, hb24, hB25, E26⟩
  have n28 : b7 < b23 := Nat.lt_of_lt_of_le (Blk.lt (hB9.ext E17)) hb24
  have n29 : b14 < b23 := Nat.lt_of_lt_of_le (Blk.lt hB16) hb24
  have g30 : w.heap.size ≤ b23 := Nat.le_trans (Below.size X21) hb24
  change Blk _ _ [(.slice none 0 0)] at hB25
  have X31 := Ext.gr X21 E26
  show wpList _ _ _ _ (fr [(.agg #[(.slice p3 A_a.nodes.length q4)]), (Pt b7 0), (Pt b14 0), (Pt b23 0), Ud, Ud, Ud, Ud, Ud]) _
  refine wpList_nil (hK22 _ _ ?_)
  refine wp_seq_k fun K32 hK32 => ?_
  refine wp_region_lit ?_
  refine q_is (l' := [(.agg #[(.slice p3 A_a.nodes.length q4)]), (Pt b7 0), (Pt b14 0), (Pt b23 0), (Pt b7 0), Ud, Ud, Ud, Ud]) rfl rfl (does_fieldAddr (ev rfl) fa24_0) rfl ?_
  refine q_is (l' := [(.agg #[(.slice p3 A_a.nodes.length q4)]), (Pt b7 0), (Pt b14 0), (Pt b23 0), (Pt b7 0), (.slice p3 A_a.nodes.length q4), Ud, Ud, Ud]) rfl rfl (does_load (u := (.slice p3 A_a.nodes.length q4)) (ev rfl) Try.isAgg22 (Cells.at (Blk.cells ((hB9.ext E17).ext E26)) 0 rfl)) rfl ?_
  refine seqd rfl rfl (does_call (args := #[(.slice p3 A_a.nodes.length q4)]) cal25 (evs rfl) (c_laws_toNodeS (.slice p3 A_a.nodes.length q4) A_a.nodes _ (Sl.ext hs5 RNodeT.mono X31) (by exact hse.1) (by exact hse.2))) ?_; rintro _ w34 ⟨E33, ⟨y36, rfl, hh35⟩⟩
  have X37 := Ext.gr X31 E33
  have n38 : b7 < w27.heap.size := Blk.lt ((hB9.ext E17).ext E26)
  have n39 : b14 < w27.heap.size := Blk.lt (hB16.ext E26)
  have n40 : b23 < w27.heap.size := Blk.lt hB25
  obtain ⟨p41, q42, rfl⟩ := Sl.shape hh35.get
  show wpList _ _ _ _ (fr [(.agg #[(.slice p3 A_a.nodes.length q4)]), (Pt b7 0), (Pt b14 0), (Pt b23 0), (Pt b7 0), (.slice p3 A_a.nodes.length q4), (.slice p41 A_a.nodes.length q42), Ud, Ud]) _
  refine q_is (l' := [(.agg #[(.slice p3 A_a.nodes.length q4)]), (Pt b7 0), (Pt b14 0), (Pt b23 0), (Pt b7 0), (.slice p3 A_a.nodes.length q4), (.slice p41 A_a.nodes.length q42), (Pt b23 0), Ud]) rfl rfl (does_fieldAddr (ev rfl) fa30_0) rfl ?_
  refine seqn rfl rfl (does_store (n := 1) (cs := [(.slice none 0 0)]) (u := (.slice p41 A_a.nodes.length q42)) (ev rfl) (ev rfl) Try.sizeOf28 rfl (hB25.ext E33) (Nat.le_of_ble_eq_true rfl) rfl) ?_; rintro _ w45 ⟨rfl, W43, hB44⟩
  change Blk _ _ [(.slice p41 A_a.nodes.length q42)] at hB44
  have X46 := Below.wr X37 W43 g30
  refine wpList_nil (hK32 _ _ ?_)
  refine wp_seq_k fun K47 hK47 => ?_
  refine wp_region_lit ?_
  refine q_is (l' := [(.agg #[(.slice p3 A_a.nodes.length q4)]), (Pt b7 0), (Pt b14 0), (Pt b23 0), (Pt b7 0), (.slice p3 A_a.nodes.length q4), (.slice p41 A_a.nodes.length q42), (Pt b23 0), (.agg #[(.slice p41 A_a.nodes.length q42)])]) rfl rfl (does_loadAgg (cs := [(.slice p41 A_a.nodes.length q42)]) (ev rfl) Try.isAgg30 Try.sizeOf30 (Blk.cells hB44) rfl) rfl ?_
  refine seqn rfl rfl (does_store (n := 1) (cs := [(.slice none 0 0)]) (u := (.agg #[(.slice p41 A_a.nodes.length q42)])) (ev rfl) (ev rfl) Try.sizeOf30 rfl (((hB16.ext E26).ext E33).wr W43 (Nat.ne_of_lt n29)) (Nat.le_of_ble_eq_true rfl) rfl) ?_; rintro _ w50 ⟨rfl, W48, hB49⟩
  change Blk _ _ [(.slice p41 A_a.nodes.length q42)] at hB49
  have X51 := Below.wr X46 W48 g20
  refine wpList_nil (hK47 _ _ ?_)
  refine wp_ret ?_
  refine ret_val (v := (.agg #[(.slice p41 A_a.nodes.length q42)])) (res_C rfl (slot rfl) (run_loadAgg (cs := [(.slice p41 A_a.nodes.length q42)]) Try.isAgg30 Try.sizeOf30 (Blk.cells hB49) rfl)) X51 ?_
  exact ⟨[(.slice p41 A_a.nodes.length q42)], rfl, fun u hu => ⟨(.slice p41 A_a.nodes.length q42), rfl, ((Hang.to hh35 (((Same.refl _ _).wr W43 (.inl n40)).wr W48 (.inl n39))).le (Below.size (Ext.gr (Ext.gr (Ext.gr (Ext.refl _) E10) E17) E26))) u hu⟩⟩

/- impl.in -/
theorem c_impl_in (n : Int) (low : Int) (high : Int) (w : World) : Gives Try.prog 55 #[(Iv n), (Iv low), (Iv high)] w (fun v w' => v = (Bo (inI n low high))) := by
  refine enter [(Iv n), (Iv low), (Iv high), Ud, Ud, Ud, Ud, Ud, Ud, Ud, Ud, Ud, Ud, Ud, Ud] Try.func55 rfl Try.ntmps55 rfl ?_
  refine wp_seq_k fun K1 hK1 => ?_
  refine wp_region_lit ?_
  refine q_is (l' := [(Iv n), (Iv low), (Iv high), Ud, Ud, Ud, (Bo false), Ud, Ud, Ud, Ud, Ud, Ud, Ud, Ud]) rfl rfl (does_assign (u := (Bo false)) (ev rfl)) rfl ?_
  refine wpList_nil (hK1 _ _ ?_)
  refine wp_seq_k fun K2 hK2 => ?_
  obtain ⟨β1, hβ1⟩ : ∃ b : Bool, b = ((icmp .geq n low) && (icmp .leq n high)) := ⟨_, rfl⟩
  refine region_text (
    [Fact.pure [] (fun v => v = (Iv n)),
    Fact.pure [] (fun v => v = (Iv low)),
    Fact.pure [7, 8] (fun v => v = (Bo (icmp .geq n low))),
    Fact.pure [9] (fun v => v = (Bo (icmp .geq n low))),
    Fact.pure [10] (fun v => (icmp .geq n low) = true → v = (Iv n)),
    Fact.pure [10] (fun v => (icmp .geq n low) = true → v = (Iv high)),
    Fact.pure [11, 12, 10] (fun v => (icmp .geq n low) = true → v = (Bo (icmp .leq n high))),
    Fact.pure [10, 13] (fun v => v = (Bo β1))]) (by simp [Fact.pure, Fact.mem]) ?_
  refine RW_d (fun v3 => [(Iv n), (Iv low), (Iv high), Ud, Ud, Ud, (Bo false), v3, Ud, Ud, Ud, Ud, Ud, Ud, Ud]) rfl (fun _ => rfl) (fun u hu hF => ?_) (fun v3 => ?_)
  · clear hF
    refine doesG_un rfl ?_
    refine (does_move (u := (Iv n)) (ev rfl)).mono ?_; rintro _ _ ⟨rfl, rfl⟩
    exact ⟨rfl, Ext.refl _⟩
  refine RW_d (fun v4 => [(Iv n), (Iv low), (Iv high), Ud, Ud, Ud, (Bo false), v3, v4, Ud, Ud, Ud, Ud, Ud, Ud]) rfl (fun _ => rfl) (fun u hu hF => ?_) (fun v4 => ?_)
  · clear hF
    refine doesG_un rfl ?_
    refine (does_move (u := (Iv low)) (ev rfl)).mono ?_; rintro _ _ ⟨rfl, rfl⟩
    exact ⟨rfl, Ext.refl _⟩
  refine RW_d (fun v5 => [(Iv n), (Iv low), (Iv high), Ud, Ud, Ud, (Bo false), v3, v4, v5, Ud, Ud, Ud, Ud, Ud]) rfl (fun _ => rfl) (fun u hu hF => ?_) (fun v5 => ?_)
  · have h7_ : v3 = (Iv n) := hF.1
    have h8_ : v4 = (Iv low) := hF.2.1
    clear hF
    refine doesG_un rfl ?_
    obtain rfl := h7_
    obtain rfl := h8_
    refine (does_icmp (p := n) (q := low) (.inr (.inr (.inr (.inr (.inr rfl))))) (ev rfl) (ev rfl)).mono ?_; rintro _ _ ⟨rfl, rfl⟩
    exact ⟨rfl, Ext.refl _⟩
  refine RW_d (fun v6 => [(Iv n), (Iv low), (Iv high), Ud, Ud, Ud, (Bo false), v3, v4, v5, v6, Ud, Ud, Ud, Ud]) rfl (fun _ => rfl) (fun u hu hF => ?_) (fun v6 => ?_)
  · have h9_ : v5 = (Bo (icmp .geq n low)) := hF.1
    clear hF
    refine doesG_un rfl ?_
    obtain rfl := h9_
    refine (does_move (u := (Bo (icmp .geq n low))) (ev rfl)).mono ?_; rintro _ _ ⟨rfl, rfl⟩
    exact ⟨rfl, Ext.refl _⟩
  refine RW_d (fun v7 => [(Iv n), (Iv low), (Iv high), Ud, Ud, Ud, (Bo false), v3, v4, v5, v6, v7, Ud, Ud, Ud]) rfl (fun _ => rfl) (fun u hu hF => ?_) (fun v7 => ?_)
  · have h10_ : v6 = (Bo (icmp .geq n low)) := hF.1
    clear hF
    obtain rfl := h10_
    refine doesG_g (b := (icmp .geq n low)) rfl (yld rfl rfl) (fun hg1 => ?_) (fun hc => ⟨fun hg1 => absurd hg1 hc, Ext.refl _⟩)
    refine (does_move (u := (Iv n)) (ev rfl)).mono ?_; rintro _ _ ⟨rfl, rfl⟩
    exact ⟨fun _ => rfl, Ext.refl _⟩
  refine RW_d (fun v8 => [(Iv n), (Iv low), (Iv high), Ud, Ud, Ud, (Bo false), v3, v4, v5, v6, v7, v8, Ud, Ud]) rfl (fun _ => rfl) (fun u hu hF => ?_) (fun v8 => ?_)
  · have h10_ : v6 = (Bo (icmp .geq n low)) := hF.1
    clear hF
    obtain rfl := h10_
    refine doesG_g (b := (icmp .geq n low)) rfl (yld rfl rfl) (fun hg1 => ?_) (fun hc => ⟨fun hg1 => absurd hg1 hc, Ext.refl _⟩)
    refine (does_move (u := (Iv high)) (ev rfl)).mono ?_; rintro _ _ ⟨rfl, rfl⟩
    exact ⟨fun _ => rfl, Ext.refl _⟩
  refine RW_d (fun v9 => [(Iv n), (Iv low), (Iv high), Ud, Ud, Ud, (Bo false), v3, v4, v5, v6, v7, v8, v9, Ud]) rfl (fun _ => rfl) (fun u hu hF => ?_) (fun v9 => ?_)
  · have h11_ : (icmp .geq n low) = true → v7 = (Iv n) := hF.1
    have h12_ : (icmp .geq n low) = true → v8 = (Iv high) := hF.2.1
    have h10_ : v6 = (Bo (icmp .geq n low)) := hF.2.2.1
    clear hF
    obtain rfl := h10_
    refine doesG_g (b := (icmp .geq n low)) rfl (yld rfl rfl) (fun hg1 => ?_) (fun hc => ⟨fun hg1 => absurd hg1 hc, Ext.refl _⟩)
    obtain rfl := h11_ hg1
    obtain rfl := h12_ hg1
    refine (does_icmp (p := n) (q := high) (.inr (.inr (.inr (.inl rfl)))) (ev rfl) (ev rfl)).mono ?_; rintro _ _ ⟨rfl, rfl⟩
    exact ⟨fun _ => rfl, Ext.refl _⟩
  refine RW_d (fun v10 => [(Iv n), (Iv low), (Iv high), Ud, Ud, Ud, (Bo false), v3, v4, v5, v6, v7, v8, v9, v10]) rfl (fun _ => rfl) (fun u hu hF => ?_) (fun v10 => ?_)
  · have h10_ : v6 = (Bo (icmp .geq n low)) := hF.1
    have h13_ : (icmp .geq n low) = true → v9 = (Bo (icmp .leq n high)) := hF.2.1
    clear hF
    refine doesG_un rfl ?_
    skip
    obtain rfl := h10_
    refine (does_pick (b := (icmp .geq n low)) (u := v9) (v := (Bo false)) (ev rfl) (ev rfl) (ev rfl)).mono ?_; rintro _ _ ⟨rfl, rfl⟩; refine ⟨?_, Ext.refl _⟩; rw [hβ1]; skip
    cases hbb : (icmp .geq n low)
    all_goals first | (show _ = _; simp only [↓reduceIte, Bool.true_and, Bool.false_and, Bool.true_or, Bool.false_or, Bool.false_eq_true]; done) | (have e_ := h13_ hbb; subst e_; show _ = _; simp only [↓reduceIte, Bool.true_and, Bool.false_and, Bool.true_or, Bool.false_or, Bool.false_eq_true]; done) | rfl | (have e_ := h13_ hbb; subst e_; rfl) | (simp [hbb] at h13_ ⊢; first | done | rfl | (subst h13_; rfl) | simp_all) | (simp [hbb] at h13_ ⊢; done)
  refine RW_fin ?_; intro w11 E12 hP13
  obtain ⟨⟨⟨⟨⟨⟨⟨⟨-, -⟩, -⟩, -⟩, -⟩, -⟩, -⟩, -⟩, q14⟩ := hP13
  have X15 := Ext.gr (Ext.refl w) E12
  have q14 : v10 = (Bo β1) := q14
  obtain rfl := q14
  show wpList _ _ _ _ (fr [(Iv n), (Iv low), (Iv high), Ud, Ud, Ud, (Bo false), v3, v4, v5, v6, v7, v8, v9, (Bo β1)]) _
  refine q_is (l' := [(Iv n), (Iv low), (Iv high), Ud, Ud, Ud, (Bo β1), v3, v4, v5, v6, v7, v8, v9, (Bo β1)]) rfl rfl (does_assign (u := (Bo β1)) (ev rfl)) rfl ?_
  refine wpList_nil (hK2 _ _ ?_)
  refine wp_ret ?_
  refine ret_val (v := (Bo β1)) (res_T rfl (slot rfl)) X15 ?_
  have x16 : (inI n low high) = β1 := by first | with_reducible rfl | (simp only [inI, hβ1]; done) | (simp [inI, hβ1]; done) | rfl
  exact (by first | with_reducible rfl | rw [x16] | rfl)

/- slices.IndexFunc[[]float32,float32] -/
theorem c_slices_IndexFunc_float32_float32 (xs : Value) (L_xs : List Nat) (f : Value) (pr_f : Nat → Bool) (w : World) (hv_xs : Sl RF 1 w xs L_xs) (hv_f : TellsF Try.prog f w pr_f) : Gives Try.prog 103 #[xs, f] w (fun v w' => v = (Iv (findI pr_f L_xs))) := by
  have hlen_xs := Sl.len hv_xs; obtain ⟨p_xs, q_xs, rfl⟩ := Sl.shape hv_xs
  obtain ⟨f_f, s_f, c_f, rfl, hcal_f, hg_f⟩ := hv_f
  refine enter [(.slice p_xs L_xs.length q_xs), (.func (.func f_f) s_f c_f), Ud, Ud, Ud, Ud, Ud, Ud, Ud, Ud, Ud, Ud, Ud, Ud, Ud, Ud, Ud, Ud, Ud] Try.func103 rfl Try.ntmps103 rfl ?_
  refine wp_seq_k fun K1 hK1 => ?_
  refine wp_region_lit ?_
  refine q_is (l' := [(.slice p_xs L_xs.length q_xs), (.func (.func f_f) s_f c_f), Ud, Ud, (Iv 0), Ud, Ud, Ud, Ud, Ud, Ud, Ud, Ud, Ud, Ud, Ud, Ud, Ud, Ud]) rfl rfl (does_assign (u := (Iv 0)) (ev rfl)) rfl ?_
  refine wpList_nil (hK1 _ _ ?_)
  refine wp_seq_k fun K2 hK2 => ?_
  refine wp_seq_k fun K3 hK3 => ?_
  refine wp_region_lit ?_
  refine q_is (l' := [(.slice p_xs L_xs.length q_xs), (.func (.func f_f) s_f c_f), Ud, Ud, (Iv 0), Ud, (.slice p_xs L_xs.length q_xs), Ud, Ud, Ud, Ud, Ud, Ud, Ud, Ud, Ud, Ud, Ud, Ud]) rfl rfl (does_move (u := (.slice p_xs L_xs.length q_xs)) (ev rfl)) rfl ?_
  refine q_is (l' := [(.slice p_xs L_xs.length q_xs), (.func (.func f_f) s_f c_f), Ud, Ud, (Iv 0), Ud, (.slice p_xs L_xs.length q_xs), (Iv (L_xs.length : Int)), Ud, Ud, Ud, Ud, Ud, Ud, Ud, Ud, Ud, Ud, Ud]) rfl rfl (does_len_slice Try.underlying97 (ev rfl)) rfl ?_
  refine q_is (l' := [(.slice p_xs L_xs.length q_xs), (.func (.func f_f) s_f c_f), Ud, Ud, (Iv 0), Ud, (.slice p_xs L_xs.length q_xs), (Iv (L_xs.length : Int)), (Iv 0), Ud, Ud, Ud, Ud, Ud, Ud, Ud, Ud, Ud, Ud]) rfl rfl (does_move (u := (Iv 0)) (ev rfl)) rfl ?_
  refine wpList_nil (hK3 _ _ ?_)
  refine wp_block ?_
  refine loop_ghost (σ := Nat) (fun k a w' => ∃ u4 : Nat → Value, a = fr [(.slice p_xs L_xs.length q_xs), (.func (.func f_f) s_f c_f), Ud, Ud, (u4 4), (u4 5), (.slice p_xs L_xs.length q_xs), (Iv (L_xs.length : Int)), (Iv (k : Int)), (u4 9), (u4 10), (u4 11), (u4 12), (u4 13), (u4 14), (u4 15), (u4 16), (u4 17), (u4 18)] ∧ Ext w w' ∧ (k ≤ L_xs.length ∧ NoneTo pr_f L_xs k)) (fun k => L_xs.length - k) 0 ?_ ?_
  · refine ⟨fun t => (([(.slice p_xs L_xs.length q_xs), (.func (.func f_f) s_f c_f), Ud, Ud, (Iv 0), Ud, (.slice p_xs L_xs.length q_xs), (Iv (L_xs.length : Int)), (Iv 0), Ud, Ud, Ud, Ud, Ud, Ud, Ud, Ud, Ud, Ud] : List Value)[t]?).getD undef, rfl, Ext.refl _, ?_⟩
    exact ⟨Nat.zero_le _, NoneTo.zero⟩
  · rintro k a w5 ⟨u4, rfl, E6, ⟨hk, hno⟩⟩
    have X8 := Ext.gr (Ext.refl w) E6
    refine wp_seq_k fun K9 hK9 => ?_
    refine wp_region_lit ?_
    refine q_is (l' := [(.slice p_xs L_xs.length q_xs), (.func (.func f_f) s_f c_f), Ud, Ud, (u4 4), (u4 5), (.slice p_xs L_xs.length q_xs), (Iv (L_xs.length : Int)), (Iv (k : Int)), (Bo (icmp .lss (k : Int) (L_xs.length : Int))), (u4 10), (u4 11), (u4 12), (u4 13), (u4 14), (u4 15), (u4 16), (u4 17), (u4 18)]) rfl rfl (does_icmp (p := (k : Int)) (q := (L_xs.length : Int)) (.inr (.inr (.inl rfl))) (ev rfl) (ev rfl)) rfl ?_
    refine wpList_nil (hK9 _ _ ?_)
    refine wp_seq_k fun K10 hK10 => ?_
    refine wp_cond_split (t := icmp .lss (k : Int) (L_xs.length : Int)) (ev rfl) (fun c11 => ?_) (fun c11 => ?_)
    · have c11' := c11
      (try simp only [icmp, Bool.and_eq_true, Bool.or_eq_true, Bool.and_eq_false_iff, Bool.or_eq_false_iff, Bool.not_eq_true', Bool.not_eq_false', decide_eq_true_eq, decide_eq_false_iff_not, beq_iff_eq, bne_iff_ne, beq_eq_false_iff_ne, bne_eq_false_iff_eq] at c11')
      refine wp_skip (hK10 _ _ ?_)
      refine wp_seq_k fun K12 hK12 => ?_
      refine wp_block ?_
      refine wp_seq_k fun K13 hK13 => ?_
      refine wp_region_lit ?_
      refine q_is (l' := [(.slice p_xs L_xs.length q_xs), (.func (.func f_f) s_f c_f), Ud, Ud, (u4 4), (u4 5), (.slice p_xs L_xs.length q_xs), (Iv (L_xs.length : Int)), (Iv (k : Int)), (Bo (icmp .lss (k : Int) (L_xs.length : Int))), (Iv (k : Int)), (u4 11), (u4 12), (u4 13), (u4 14), (u4 15), (u4 16), (u4 17), (u4 18)]) rfl rfl (does_move (u := (Iv (k : Int))) (ev rfl)) rfl ?_
      refine q_is (l' := [(.slice p_xs L_xs.length q_xs), (.func (.func f_f) s_f c_f), Ud, Ud, (u4 4), (Iv (k : Int)), (.slice p_xs L_xs.length q_xs), (Iv (L_xs.length : Int)), (Iv (k : Int)), (Bo (icmp .lss (k : Int) (L_xs.length : Int))), (Iv (k : Int)), (u4 11), (u4 12), (u4 13), (u4 14), (u4 15), (u4 16), (u4 17), (u4 18)]) rfl rfl (does_assign (u := (Iv (k : Int))) (ev rfl)) rfl ?_
      refine wpList_nil (hK13 _ _ ?_)
      refine wp_seq_k fun K14 hK14 => ?_
      refine wp_region_lit ?_
      refine q_is (l' := [(.slice p_xs L_xs.length q_xs), (.func (.func f_f) s_f c_f), Ud, Ud, (u4 4), (Iv (k : Int)), (.slice p_xs L_xs.length q_xs), (Iv (L_xs.length : Int)), (Iv (k : Int)), (Bo (icmp .lss (k : Int) (L_xs.length : Int))), (Iv (k : Int)), (.func (.func f_f) s_f c_f), (u4 12), (u4 13), (u4 14), (u4 15), (u4 16), (u4 17), (u4 18)]) rfl rfl (does_move (u := (.func (.func f_f) s_f c_f)) (ev rfl)) rfl ?_
      refine q_is (l' := [(.slice p_xs L_xs.length q_xs), (.func (.func f_f) s_f c_f), Ud, Ud, (u4 4), (Iv (k : Int)), (.slice p_xs L_xs.length q_xs), (Iv (L_xs.length : Int)), (Iv (k : Int)), (Bo (icmp .lss (k : Int) (L_xs.length : Int))), (Iv (k : Int)), (.func (.func f_f) s_f c_f), (.slice p_xs L_xs.length q_xs), (u4 13), (u4 14), (u4 15), (u4 16), (u4 17), (u4 18)]) rfl rfl (does_move (u := (.slice p_xs L_xs.length q_xs)) (ev rfl)) rfl ?_
      refine q_is (l' := [(.slice p_xs L_xs.length q_xs), (.func (.func f_f) s_f c_f), Ud, Ud, (u4 4), (Iv (k : Int)), (.slice p_xs L_xs.length q_xs), (Iv (L_xs.length : Int)), (Iv (k : Int)), (Bo (icmp .lss (k : Int) (L_xs.length : Int))), (Iv (k : Int)), (.func (.func f_f) s_f c_f), (.slice p_xs L_xs.length q_xs), (Iv (k : Int)), (u4 14), (u4 15), (u4 16), (u4 17), (u4 18)]) rfl rfl (does_move (u := (Iv (k : Int))) (ev rfl)) rfl ?_
      obtain ⟨el1, hel1⟩ : ∃ e, L_xs[k]? = some e := ⟨_, List.getElem?_eq_getElem (by omega)⟩
      refine seqd rfl rfl (does_indexSl (R := RF) (i := (k : Int)) (xs := L_xs) (e := el1) Try.underlying97 Try.sizeOf38 (ev rfl) (ev rfl) (Sl.ext hv_xs RF.mono X8) (by omega) hel1) ?_; rintro _ w5 ⟨b15, o16, _, rfl, hc18, ⟨r19, rfl, h20⟩, rfl⟩
      show wpList _ _ _ _ (fr [(.slice p_xs L_xs.length q_xs), (.func (.func f_f) s_f c_f), Ud, Ud, (u4 4), (Iv (k : Int)), (.slice p_xs L_xs.length q_xs), (Iv (L_xs.length : Int)), (Iv (k : Int)), (Bo (icmp .lss (k : Int) (L_xs.length : Int))), (Iv (k : Int)), (.func (.func f_f) s_f c_f), (.slice p_xs L_xs.length q_xs), (Iv (k : Int)), (Pt b15 o16), (u4 15), (u4 16), (u4 17), (u4 18)]) _
      refine q_is (l' := [(.slice p_xs L_xs.length q_xs), (.func (.func f_f) s_f c_f), Ud, Ud, (u4 4), (Iv (k : Int)), (.slice p_xs L_xs.length q_xs), (Iv (L_xs.length : Int)), (Iv (k : Int)), (Bo (icmp .lss (k : Int) (L_xs.length : Int))), (Iv (k : Int)), (.func (.func f_f) s_f c_f), (.slice p_xs L_xs.length q_xs), (Iv (k : Int)), (Pt b15 o16), (Fl r19), (u4 16), (u4 17), (u4 18)]) rfl rfl (does_load (u := (Fl r19)) (ev rfl) Try.isAgg38 (Cells.at hc18 0 rfl)) rfl ?_
      refine seqd rfl rfl (does_callf (args := #[(Fl r19)]) (ev rfl) hcal_f (evs rfl) (hg_f r19 _ X8)) ?_; rintro _ w22 ⟨E21, rfl⟩
      have X23 := Ext.gr X8 E21
      show wpList _ _ _ _ (fr [(.slice p_xs L_xs.length q_xs), (.func (.func f_f) s_f c_f), Ud, Ud, (u4 4), (Iv (k : Int)), (.slice p_xs L_xs.length q_xs), (Iv (L_xs.length : Int)), (Iv (k : Int)), (Bo (icmp .lss (k : Int) (L_xs.length : Int))), (Iv (k : Int)), (.func (.func f_f) s_f c_f), (.slice p_xs L_xs.length q_xs), (Iv (k : Int)), (Pt b15 o16), (Fl r19), (Bo (pr_f (cf .f32 r19))), (u4 17), (u4 18)]) _
      refine wpList_nil (hK14 _ _ ?_)
      refine wp_cond_split (t := pr_f (cf .f32 r19)) (ev rfl) (fun c24 => ?_) (fun c24 => ?_)
      · have c24' := c24
        refine wp_seq_k fun K25 hK25 => ?_
        refine wp_region_lit ?_
        refine q_is (l' := [(.slice p_xs L_xs.length q_xs), (.func (.func f_f) s_f c_f), Ud, Ud, (u4 4), (Iv (k : Int)), (.slice p_xs L_xs.length q_xs), (Iv (L_xs.length : Int)), (Iv (k : Int)), (Bo (icmp .lss (k : Int) (L_xs.length : Int))), (Iv (k : Int)), (.func (.func f_f) s_f c_f), (.slice p_xs L_xs.length q_xs), (Iv (k : Int)), (Pt b15 o16), (Fl r19), (Bo (pr_f (cf .f32 r19))), (Iv (k : Int)), (u4 18)]) rfl rfl (does_move (u := (Iv (k : Int))) (ev rfl)) rfl ?_
        refine q_is (l' := [(.slice p_xs L_xs.length q_xs), (.func (.func f_f) s_f c_f), Ud, Ud, (Iv (k : Int)), (Iv (k : Int)), (.slice p_xs L_xs.length q_xs), (Iv (L_xs.length : Int)), (Iv (k : Int)), (Bo (icmp .lss (k : Int) (L_xs.length : Int))), (Iv (k : Int)), (.func (.func f_f) s_f c_f), (.slice p_xs L_xs.length q_xs), (Iv (k : Int)), (Pt b15 o16), (Fl r19), (Bo (pr_f (cf .f32 r19))), (Iv (k : Int)), (u4 18)]) rfl rfl (does_assign (u := (Iv (k : Int))) (ev rfl)) rfl ?_
        refine wpList_nil (hK25 _ _ ?_)
        refine wp_ret ?_
        dsimp only [Exit.then, Exit.inBlock]
        refine ret_val (v := (Iv (k : Int))) (res_T rfl (slot rfl)) X23 ?_
        try simp only [hel1, h20] at c11 c24
        have x26 : (findI pr_f L_xs : Int) = (k : Int) := by first | exact findI_at hno (by assumption) (by simp_all) | exact findI_none hno (by omega)
        exact (by first | with_reducible rfl | rw [x26] | rfl)
      have c24' := c24
      refine wp_skip (hK12 _ _ ?_)
      refine wp_region_lit ?_
      refine q_is (l' := [(.slice p_xs L_xs.length q_xs), (.func (.func f_f) s_f c_f), Ud, Ud, (u4 4), (Iv (k : Int)), (.slice p_xs L_xs.length q_xs), (Iv (L_xs.length : Int)), (Iv (k : Int)), (Bo (icmp .lss (k : Int) (L_xs.length : Int))), (Iv (k : Int)), (.func (.func f_f) s_f c_f), (.slice p_xs L_xs.length q_xs), (Iv (k : Int)), (Pt b15 o16), (Fl r19), (Bo (pr_f (cf .f32 r19))), (u4 17), (Iv ((k : Int) + 1))]) rfl rfl (does_iarith (p := (k : Int)) (q := 1) (r := (k : Int) + 1) (ev rfl) (ev rfl) (.inl ⟨rfl, (in_i64 (by omega) (by omega)).symm⟩)) rfl ?_
      refine q_is (l' := [(.slice p_xs L_xs.length q_xs), (.func (.func f_f) s_f c_f), Ud, Ud, (u4 4), (Iv (k : Int)), (.slice p_xs L_xs.length q_xs), (Iv (L_xs.length : Int)), (Iv ((k : Int) + 1)), (Bo (icmp .lss (k : Int) (L_xs.length : Int))), (Iv (k : Int)), (.func (.func f_f) s_f c_f), (.slice p_xs L_xs.length q_xs), (Iv (k : Int)), (Pt b15 o16), (Fl r19), (Bo (pr_f (cf .f32 r19))), (u4 17), (Iv ((k : Int) + 1))]) rfl rfl (does_move (u := (Iv ((k : Int) + 1))) (ev rfl)) rfl ?_
      refine wpList_nil ?_
      refine ⟨k + 1, ⟨fun t => (([(.slice p_xs L_xs.length q_xs), (.func (.func f_f) s_f c_f), Ud, Ud, (u4 4), (Iv (k : Int)), (.slice p_xs L_xs.length q_xs), (Iv (L_xs.length : Int)), (Iv ((k : Int) + 1)), (Bo (icmp .lss (k : Int) (L_xs.length : Int))), (Iv (k : Int)), (.func (.func f_f) s_f c_f), (.slice p_xs L_xs.length q_xs), (Iv (k : Int)), (Pt b15 o16), (Fl r19), (Bo (pr_f (cf .f32 r19))), (u4 17), (Iv ((k : Int) + 1))] : List Value)[t]?).getD undef, ?_, (Ext.gr E6 E21), ?_⟩, ?_⟩
      · first | rfl | (simp only [Int.natCast_add, Int.natCast_one]; rfl)
      · exact ⟨by omega, NoneTo.step hno (by assumption) (by simp_all)⟩
      · omega
    have c11' := c11
    (try simp only [icmp, Bool.and_eq_true, Bool.or_eq_true, Bool.and_eq_false_iff, Bool.or_eq_false_iff, Bool.not_eq_true', Bool.not_eq_false', decide_eq_true_eq, decide_eq_false_iff_not, beq_iff_eq, bne_iff_ne, beq_eq_false_iff_ne, bne_eq_false_iff_eq] at c11')
    refine wp_exit ?_
    refine hK2 _ _ ?_
    refine wp_seq_k fun K27 hK27 => ?_
    refine wp_region_lit ?_
    refine q_is (l' := [(.slice p_xs L_xs.length q_xs), (.func (.func f_f) s_f c_f), Ud, Ud, (Iv (-1)), (u4 5), (.slice p_xs L_xs.length q_xs), (Iv (L_xs.length : Int)), (Iv (k : Int)), (Bo (icmp .lss (k : Int) (L_xs.length : Int))), (u4 10), (u4 11), (u4 12), (u4 13), (u4 14), (u4 15), (u4 16), (u4 17), (u4 18)]) rfl rfl (does_assign (u := (Iv (-1))) (ev rfl)) rfl ?_
    refine wpList_nil (hK27 _ _ ?_)
    refine wp_ret ?_
    refine ret_val (v := (Iv (-1))) (res_T rfl (slot rfl)) X8 ?_
    have x28 : (findI pr_f L_xs : Int) = (-1) := by first | exact findI_at hno (by assumption) (by simp_all) | exact findI_none hno (by omega)
    exact (by first | with_reducible rfl | rw [x28] | rfl)

/- slices.ContainsFunc[[]float32,float32] -/
theorem c_slices_ContainsFunc_float32_float32 (xs : Value) (L_xs : List Nat) (f : Value) (pr_f : Nat → Bool) (w : World) (hv_xs : Sl RF 1 w xs L_xs) (hv_f : TellsF Try.prog f w pr_f) : Gives Try.prog 86 #[xs, f] w (fun v w' => v = (Bo (L_xs.any pr_f))) := by
  have hlen_xs := Sl.len hv_xs; obtain ⟨p_xs, q_xs, rfl⟩ := Sl.shape hv_xs
  obtain ⟨f_f, s_f, c_f, rfl, hcal_f, hg_f⟩ := hv_f
  refine enter [(.slice p_xs L_xs.length q_xs), (.func (.func f_f) s_f c_f), Ud, Ud, Ud, Ud, Ud, Ud, Ud] Try.func86 rfl Try.ntmps86 rfl ?_
  refine wp_seq_k fun K1 hK1 => ?_
  refine wp_region_lit ?_
  refine q_is (l' := [(.slice p_xs L_xs.length q_xs), (.func (.func f_f) s_f c_f), Ud, Ud, (Bo false), Ud, Ud, Ud, Ud]) rfl rfl (does_assign (u := (Bo false)) (ev rfl)) rfl ?_
  refine wpList_nil (hK1 _ _ ?_)
  refine wp_seq_k fun K2 hK2 => ?_
  refine wp_region_lit ?_
  refine q_is (l' := [(.slice p_xs L_xs.length q_xs), (.func (.func f_f) s_f c_f), Ud, Ud, (Bo false), (.slice p_xs L_xs.length q_xs), Ud, Ud, Ud]) rfl rfl (does_move (u := (.slice p_xs L_xs.length q_xs)) (ev rfl)) rfl ?_
  refine q_is (l' := [(.slice p_xs L_xs.length q_xs), (.func (.func f_f) s_f c_f), Ud, Ud, (Bo false), (.slice p_xs L_xs.length q_xs), (.func (.func f_f) s_f c_f), Ud, Ud]) rfl rfl (does_move (u := (.func (.func f_f) s_f c_f)) (ev rfl)) rfl ?_
  refine seqd rfl rfl (does_call (args := #[(.slice p_xs L_xs.length q_xs), (.func (.func f_f) s_f c_f)]) cal103 (evs rfl) (c_slices_IndexFunc_float32_float32 (.slice p_xs L_xs.length q_xs) L_xs (.func (.func f_f) s_f c_f) pr_f _ hv_xs ⟨_, _, _, rfl, hcal_f, fun r u hu' => hg_f r u (Ext.gr (Ext.refl w) hu')⟩)) ?_; rintro _ w4 ⟨E3, rfl⟩
  have X5 := Ext.gr (Ext.refl w) E3
  show wpList _ _ _ _ (fr [(.slice p_xs L_xs.length q_xs), (.func (.func f_f) s_f c_f), Ud, Ud, (Bo false), (.slice p_xs L_xs.length q_xs), (.func (.func f_f) s_f c_f), (Iv (findI pr_f L_xs)), Ud]) _
  refine q_is (l' := [(.slice p_xs L_xs.length q_xs), (.func (.func f_f) s_f c_f), Ud, Ud, (Bo false), (.slice p_xs L_xs.length q_xs), (.func (.func f_f) s_f c_f), (Iv (findI pr_f L_xs)), (Bo (icmp .geq (findI pr_f L_xs) 0))]) rfl rfl (does_icmp (p := findI pr_f L_xs) (q := 0) (.inr (.inr (.inr (.inr (.inr rfl))))) (ev rfl) (ev rfl)) rfl ?_
  refine q_is (l' := [(.slice p_xs L_xs.length q_xs), (.func (.func f_f) s_f c_f), Ud, Ud, (Bo (icmp .geq (findI pr_f L_xs) 0)), (.slice p_xs L_xs.length q_xs), (.func (.func f_f) s_f c_f), (Iv (findI pr_f L_xs)), (Bo (icmp .geq (findI pr_f L_xs) 0))]) rfl rfl (does_assign (u := (Bo (icmp .geq (findI pr_f L_xs) 0))) (ev rfl)) rfl ?_
  refine wpList_nil (hK2 _ _ ?_)
  refine wp_ret ?_
  refine ret_val (v := (Bo (icmp .geq (findI pr_f L_xs) 0))) (res_T rfl (slot rfl)) X5 ?_
  have x6 : (L_xs.any pr_f) = (icmp .geq (findI pr_f L_xs) 0) := by first | with_reducible rfl | (simp only [findI_any]; done) | (simp [findI_any]; done) | rfl
  exact (by first | with_reducible rfl | rw [x6] | rfl)

/- impl.IsFinite -/
theorem c_impl_IsFinite (x : Nat) (w : World) : Gives Try.prog 78 #[(Fl x)] w (fun v w' => v = (Bo (finF (cf .f32 x)))) := by
  refine enter [(Fl x), Ud, Ud, Ud, Ud, Ud, Ud] Try.func78 rfl Try.ntmps78 rfl ?_
  refine wp_seq_k fun K1 hK1 => ?_
  refine wp_region_lit ?_
  refine q_is (l' := [(Fl x), Ud, (Bo false), Ud, Ud, Ud, Ud]) rfl rfl (does_assign (u := (Bo false)) (ev rfl)) rfl ?_
  refine wpList_nil (hK1 _ _ ?_)
  refine wp_seq_k fun K2 hK2 => ?_
  refine wp_region_lit ?_
  refine q_is (l' := [(Fl x), Ud, (Bo false), (Fl x), Ud, Ud, Ud]) rfl rfl (does_move (u := (Fl x)) (ev rfl)) rfl ?_
  refine q_is (l' := [(Fl x), Ud, (Bo false), (Fl x), (Fl x), Ud, Ud]) rfl rfl (does_move (u := (Fl x)) (ev rfl)) rfl ?_
  refine seqd rfl rfl (does_float (.inr (.inl rfl)) (ev rfl) (ev rfl)) ?_; rintro _ w6 ⟨r3, rfl, h4, E5⟩
  have X7 := Ext.gr (Ext.refl w) E5
  show wpList _ _ _ _ (fr [(Fl x), Ud, (Bo false), (Fl x), (Fl x), (Fl r3), Ud]) _
  refine q_is (l' := [(Fl x), Ud, (Bo false), (Fl x), (Fl x), (Fl r3), (Bo (fcmp .eql (ford .f32 (cf .f32 r3) (cf .f32 0))))]) rfl rfl (does_fcmp (.inl rfl) (ev rfl) (ev rfl)) rfl ?_
  refine q_is (l' := [(Fl x), Ud, (Bo (fcmp .eql (ford .f32 (cf .f32 r3) (cf .f32 0)))), (Fl x), (Fl x), (Fl r3), (Bo (fcmp .eql (ford .f32 (cf .f32 r3) (cf .f32 0))))]) rfl rfl (does_assign (u := (Bo (fcmp .eql (ford .f32 (cf .f32 r3) (cf .f32 0))))) (ev rfl)) rfl ?_
  refine wpList_nil (hK2 _ _ ?_)
  refine wp_ret ?_
  refine ret_val (v := (Bo (fcmp .eql (ford .f32 (cf .f32 r3) (cf .f32 0))))) (res_T rfl (slot rfl)) X7 ?_
  have x8 : (finF (cf .f32 x)) = (fcmp .eql (ford .f32 (cf .f32 r3) (cf .f32 0))) := by first | with_reducible rfl | (simp only [finF, h4]; done) | (simp [finF, h4]; done) | rfl
  exact (by first | with_reducible rfl | rw [x8] | rfl)

/- impl.finite$1 -/
theorem c_impl_finite_1 (x : Nat) (w : World) : Gives Try.prog 100 #[(Fl x)] w (fun v w' => v = (Bo (!finF (cf .f32 x)))) := by
  refine enter [(Fl x), Ud, Ud, Ud, Ud, Ud] Try.func100 rfl Try.ntmps100 rfl ?_
  refine wp_seq_k fun K1 hK1 => ?_
  refine wp_region_lit ?_
  refine q_is (l' := [(Fl x), Ud, (Bo false), Ud, Ud, Ud]) rfl rfl (does_assign (u := (Bo false)) (ev rfl)) rfl ?_
  refine wpList_nil (hK1 _ _ ?_)
  refine wp_seq_k fun K2 hK2 => ?_
  refine wp_region_lit ?_
  refine q_is (l' := [(Fl x), Ud, (Bo false), (Fl x), Ud, Ud]) rfl rfl (does_move (u := (Fl x)) (ev rfl)) rfl ?_
  refine seqd rfl rfl (does_call (args := #[(Fl x)]) cal78 (evs rfl) (c_impl_IsFinite x _)) ?_; rintro _ w4 ⟨E3, rfl⟩
  have X5 := Ext.gr (Ext.refl w) E3
  show wpList _ _ _ _ (fr [(Fl x), Ud, (Bo false), (Fl x), (Bo (finF (cf .f32 x))), Ud]) _
  refine q_is (l' := [(Fl x), Ud, (Bo false), (Fl x), (Bo (finF (cf .f32 x))), (Bo (!(finF (cf .f32 x))))]) rfl rfl (does_not (ev rfl)) rfl ?_
  refine q_is (l' := [(Fl x), Ud, (Bo (!(finF (cf .f32 x)))), (Fl x), (Bo (finF (cf .f32 x))), (Bo (!(finF (cf .f32 x))))]) rfl rfl (does_assign (u := (Bo (!(finF (cf .f32 x))))) (ev rfl)) rfl ?_
  refine wpList_nil (hK2 _ _ ?_)
  refine wp_ret ?_
  refine ret_val (v := (Bo (!(finF (cf .f32 x))))) (res_T rfl (slot rfl)) X5 ?_
  have x6 : (!finF (cf .f32 x)) = (!(finF (cf .f32 x))) := by first | with_reducible rfl | (simp only []; done) | (simp []; done) | rfl
  exact (by first | with_reducible rfl | rw [x6] | rfl)

/- impl.finite -/
theorem c_impl_finite (xs : Value) (L_xs : List Nat) (w : World) (hv_xs : Sl RF 1 w xs L_xs) : Gives Try.prog 79 #[xs] w (fun v w' => v = (Bo (!L_xs.any (fun x => !finF x)))) := by
  have hlen_xs := Sl.len hv_xs; obtain ⟨p_xs, q_xs, rfl⟩ := Sl.shape hv_xs
  refine enter [(.slice p_xs L_xs.length q_xs), Ud, Ud, Ud, Ud, Ud] Try.func79 rfl Try.ntmps79 rfl ?_
  refine wp_seq_k fun K1 hK1 => ?_
  refine wp_region_lit ?_
  refine q_is (l' := [(.slice p_xs L_xs.length q_xs), Ud, (Bo false), Ud, Ud, Ud]) rfl rfl (does_assign (u := (Bo false)) (ev rfl)) rfl ?_
  refine wpList_nil (hK1 _ _ ?_)
  refine wp_seq_k fun K2 hK2 => ?_
  refine wp_region_lit ?_
  refine q_is (l' := [(.slice p_xs L_xs.length q_xs), Ud, (Bo false), (.slice p_xs L_xs.length q_xs), Ud, Ud]) rfl rfl (does_move (u := (.slice p_xs L_xs.length q_xs)) (ev rfl)) rfl ?_
  refine seqd rfl rfl (does_call (args := #[(.slice p_xs L_xs.length q_xs), (.func (.func 100) #[] #[])]) cal86 (evs rfl) (c_slices_ContainsFunc_float32_float32 (.slice p_xs L_xs.length q_xs) L_xs (.func (.func 100) #[] #[]) (fun x => !finF x) _ hv_xs ⟨100, #[], #[], rfl, cal100, fun r u hu' => by simpa using (c_impl_finite_1 r u)⟩)) ?_; rintro _ w4 ⟨E3, rfl⟩
  have X5 := Ext.gr (Ext.refl w) E3
  show wpList _ _ _ _ (fr [(.slice p_xs L_xs.length q_xs), Ud, (Bo false), (.slice p_xs L_xs.length q_xs), (Bo (L_xs.any (fun x => !finF x))), Ud]) _
  refine q_is (l' := [(.slice p_xs L_xs.length q_xs), Ud, (Bo false), (.slice p_xs L_xs.length q_xs), (Bo (L_xs.any (fun x => !finF x))), (Bo (!(L_xs.any (fun x => !finF x))))]) rfl rfl (does_not (ev rfl)) rfl ?_
  refine q_is (l' := [(.slice p_xs L_xs.length q_xs), Ud, (Bo (!(L_xs.any (fun x => !finF x)))), (.slice p_xs L_xs.length q_xs), (Bo (L_xs.any (fun x => !finF x))), (Bo (!(L_xs.any (fun x => !finF x))))]) rfl rfl (does_assign (u := (Bo (!(L_xs.any (fun x => !finF x))))) (ev rfl)) rfl ?_
  refine wpList_nil (hK2 _ _ ?_)
  refine wp_ret ?_
  refine ret_val (v := (Bo (!(L_xs.any (fun x => !finF x))))) (res_T rfl (slot rfl)) X5 ?_
  have x6 : (!L_xs.any (fun x => !finF x)) = (!(L_xs.any (fun x => !finF x))) := by first | with_reducible rfl | (simp only []; done) | (simp []; done) | rfl
  exact (by first | with_reducible rfl | rw [x6] | rfl)

/- impl.ruleOf -/
theorem c_impl_ruleOf (kind : Int) (w : World) : Gives Try.prog 85 #[(Iv kind)] w (fun v w' => ∃ cs_1 : List Value, v = (.tuple #[(.agg cs_1.toArray), (Bo (rlOk kind))]) ∧ RRuleT w (ruleP kind) cs_1) := by
  refine enter [(Iv kind), Ud, Ud, Ud, Ud, Ud, Ud, Ud, Ud, Ud, Ud, Ud, Ud, Ud, Ud, Ud, Ud, Ud, Ud, Ud, Ud, Ud, Ud, Ud, Ud, Ud, Ud, Ud, Ud, Ud, Ud, Ud, Ud, Ud, Ud, Ud, Ud, Ud, Ud, Ud, Ud, Ud, Ud, Ud, Ud, Ud, Ud, Ud, Ud, Ud, Ud] Try.func85 rfl Try.ntmps85 rfl ?_
  refine wp_seq_k fun K1 hK1 => ?_
  refine wp_region_lit ?_
  refine seqd rfl rfl (does_alloc z141) ?_; rintro _ w6 ⟨b2, rfl, hb3, hB4, E5⟩
  have g7 : w.heap.size ≤ b2 := Nat.le_trans (Below.size (Ext.refl w)) hb3
  change Blk _ _ [(Iv 0), (Iv 0), (Bo false), (Iv 0)] at hB4
  have X8 := Ext.gr (Ext.refl w) E5
  show wpList _ _ _ _ (fr [_, _, _, _, _, _, _, _, _, _, _, _, _, _, _, _, _, _, _, _, _, _, _, _, _, _, _, _, _, _, _, _, _, _, _, _, _, _, _, _, _, _, _, _, _, _, _, _, _, _, _]) _
  refine q_is rfl rfl (does_assign (u := (Bo false)) (ev rfl)) (by dsimp only [List.set]; try rfl) ?_
  refine wpList_nil (hK1 _ _ ?_)
  refine wp_seq_k fun K9 hK9 => ?_
  refine wp_seq_k fun K10 hK10 => ?_
  refine wp_region_lit ?_
  refine q_is rfl rfl (does_move (u := (Iv kind)) (ev rfl)) (by dsimp only [List.set]; try rfl) ?_
  refine wpList_nil (hK10 _ _ ?_)
  refine wp_block ?_
  refine wp_seq_k fun K11 hK11 => ?_
  refine wp_region_lit ?_
  refine q_is rfl rfl (does_icmp (p := kind) (q := 0) (.inl rfl) (ev rfl) (ev rfl)) (by dsimp only [List.set]; try rfl) ?_
  refine q_is rfl rfl (does_assign (u := (Bo (icmp .eql kind 0))) (ev rfl)) (by dsimp only [List.set]; try rfl) ?_
  refine wpList_nil (hK11 _ _ ?_)
  refine wp_cond_split (t := icmp .eql kind 0) (ev rfl) (fun c12 => ?_) (fun c12 => ?_)
  · have c12' := c12
    (try simp only [icmp, Bool.and_eq_true, Bool.or_eq_true, Bool.and_eq_false_iff, Bool.or_eq_false_iff, Bool.not_eq_true', Bool.not_eq_false', decide_eq_true_eq, decide_eq_false_iff_not, beq_iff_eq, bne_iff_ne, beq_eq_false_iff_ne, bne_eq_false_iff_eq] at c12')
    refine wp_seq_k fun K13 hK13 => ?_
    refine wp_region_lit ?_
    refine q_is rfl rfl (does_build (parts' := [(0, (Iv 1)), (1, (Iv 0)), (2, (Bo false)), (3, (Iv 1))]) (cells := #[(Iv 1), (Iv 0), (Bo false), (Iv 1)]) (evp rfl) (by kernel_rfl)) (by dsimp only [List.set]; try rfl) ?_
    refine seqn rfl rfl (does_store (n := 4) (cs := [(Iv 0), (Iv 0), (Bo false), (Iv 0)]) (u := (.agg #[(Iv 1), (Iv 0), (Bo false), (Iv 1)])) (ev rfl) (ev rfl) Try.sizeOf141 rfl hB4 (Nat.le_of_ble_eq_true rfl) rfl) ?_; rintro _ w16 ⟨rfl, W14, hB15⟩
    change Blk _ _ [(Iv 1), (Iv 0), (Bo false), (Iv 1)] at hB15
    have X17 := Below.wr X8 W14 g7
    refine q_is rfl rfl (does_assign (u := (Bo true)) (ev rfl)) (by dsimp only [List.set]; try rfl) ?_
    refine wpList_nil (hK13 _ _ ?_)
    refine wp_ret ?_
    dsimp only [Exit.then, Exit.inBlock]
    refine ret_val (v := (.tuple #[(.agg #[(Iv 1), (Iv 0), (Bo false), (Iv 1)]), (Bo true)])) (res_CT rfl (slot rfl) (run_loadAgg (cs := [(Iv 1), (Iv 0), (Bo false), (Iv 1)]) Try.isAgg141 Try.sizeOf141 (Blk.cells hB15) rfl) (slot rfl)) X17 ?_
    have x18 : (rlOk kind) = true := by first | (simp [ruleP, rlNum, rlCh, rlAx, rlSg, rlOk, inI, icmp, *]; done) | (simp_all [ruleP, rlNum, rlCh, rlAx, rlSg, rlOk, inI, icmp]; done) | (simp only [ruleP, rlNum, rlCh, rlAx, rlSg, rlOk, inI, icmp]; simp_all; omega) | (simp only [ruleP, rlNum, rlCh, rlAx, rlSg, rlOk, inI, icmp]; simp; omega)
    have x19 : (ruleP kind).num = 1 := by first | (simp [ruleP, rlNum, rlCh, rlAx, rlSg, rlOk, inI, icmp, *]; done) | (simp_all [ruleP, rlNum, rlCh, rlAx, rlSg, rlOk, inI, icmp]; done) | (simp only [ruleP, rlNum, rlCh, rlAx, rlSg, rlOk, inI, icmp]; simp_all; omega) | (simp only [ruleP, rlNum, rlCh, rlAx, rlSg, rlOk, inI, icmp]; simp; omega)
    have x20 : (ruleP kind).ch = 0 := by first | (simp [ruleP, rlNum, rlCh, rlAx, rlSg, rlOk, inI, icmp, *]; done) | (simp_all [ruleP, rlNum, rlCh, rlAx, rlSg, rlOk, inI, icmp]; done) | (simp only [ruleP, rlNum, rlCh, rlAx, rlSg, rlOk, inI, icmp]; simp_all; omega) | (simp only [ruleP, rlNum, rlCh, rlAx, rlSg, rlOk, inI, icmp]; simp; omega)
    have x21 : (ruleP kind).ax = false := by first | (simp [ruleP, rlNum, rlCh, rlAx, rlSg, rlOk, inI, icmp, *]; done) | (simp_all [ruleP, rlNum, rlCh, rlAx, rlSg, rlOk, inI, icmp]; done) | (simp only [ruleP, rlNum, rlCh, rlAx, rlSg, rlOk, inI, icmp]; simp_all; omega) | (simp only [ruleP, rlNum, rlCh, rlAx, rlSg, rlOk, inI, icmp]; simp; omega)
    have x22 : (ruleP kind).sg = 1 := by first | (simp [ruleP, rlNum, rlCh, rlAx, rlSg, rlOk, inI, icmp, *]; done) | (simp_all [ruleP, rlNum, rlCh, rlAx, rlSg, rlOk, inI, icmp]; done) | (simp only [ruleP, rlNum, rlCh, rlAx, rlSg, rlOk, inI, icmp]; simp_all; omega) | (simp only [ruleP, rlNum, rlCh, rlAx, rlSg, rlOk, inI, icmp]; simp; omega)
    exact ⟨[(Iv 1), (Iv 0), (Bo false), (Iv 1)], (by first | with_reducible rfl | rw [x18] | rfl), (by first | with_reducible rfl | (show _ = _; simp only [x19, x20, x21, x22]) | rfl)⟩
  have c12' := c12
  (try simp only [icmp, Bool.and_eq_true, Bool.or_eq_true, Bool.and_eq_false_iff, Bool.or_eq_false_iff, Bool.not_eq_true', Bool.not_eq_false', decide_eq_true_eq, decide_eq_false_iff_not, beq_iff_eq, bne_iff_ne, beq_eq_false_iff_ne, bne_eq_false_iff_eq] at c12')
  refine wp_seq_k fun K23 hK23 => ?_
  refine wp_region_lit ?_
  refine q_is rfl rfl (does_icmp (p := kind) (q := 1) (.inl rfl) (ev rfl) (ev rfl)) (by dsimp only [List.set]; try rfl) ?_
  refine q_is rfl rfl (does_assign (u := (Bo (icmp .eql kind 1))) (ev rfl)) (by dsimp only [List.set]; try rfl) ?_
  refine wpList_nil (hK23 _ _ ?_)
  refine wp_cond_split (t := icmp .eql kind 1) (ev rfl) (fun c24 => ?_) (fun c24 => ?_)
  · have c24' := c24
    (try simp only [icmp, Bool.and_eq_true, Bool.or_eq_true, Bool.and_eq_false_iff, Bool.or_eq_false_iff, Bool.not_eq_true', Bool.not_eq_false', decide_eq_true_eq, decide_eq_false_iff_not, beq_iff_eq, bne_iff_ne, beq_eq_false_iff_ne, bne_eq_false_iff_eq] at c24')
    refine wp_seq_k fun K25 hK25 => ?_
    refine wp_region_lit ?_
    refine q_is rfl rfl (does_build (parts' := [(0, (Iv 3)), (1, (Iv 0)), (2, (Bo false)), (3, (Iv 1))]) (cells := #[(Iv 3), (Iv 0), (Bo false), (Iv 1)]) (evp rfl) (by kernel_rfl)) (by dsimp only [List.set]; try rfl) ?_
    refine seqn rfl rfl (does_store (n := 4) (cs := [(Iv 0), (Iv 0), (Bo false), (Iv 0)]) (u := (.agg #[(Iv 3), (Iv 0), (Bo false), (Iv 1)])) (ev rfl) (ev rfl) Try.sizeOf141 rfl hB4 (Nat.le_of_ble_eq_true rfl) rfl) ?_; rintro _ w28 ⟨rfl, W26, hB27⟩
    change Blk _ _ [(Iv 3), (Iv 0), (Bo false), (Iv 1)] at hB27
    have X29 := Below.wr X8 W26 g7
    refine q_is rfl rfl (does_assign (u := (Bo true)) (ev rfl)) (by dsimp only [List.set]; try rfl) ?_
    refine wpList_nil (hK25 _ _ ?_)
    refine wp_ret ?_
    dsimp only [Exit.then, Exit.inBlock]
    refine ret_val (v := (.tuple #[(.agg #[(Iv 3), (Iv 0), (Bo false), (Iv 1)]), (Bo true)])) (res_CT rfl (slot rfl) (run_loadAgg (cs := [(Iv 3), (Iv 0), (Bo false), (Iv 1)]) Try.isAgg141 Try.sizeOf141 (Blk.cells hB27) rfl) (slot rfl)) X29 ?_
    have x30 : (rlOk kind) = true := by first | (simp [ruleP, rlNum, rlCh, rlAx, rlSg, rlOk, inI, icmp, *]; done) | (simp_all [ruleP, rlNum, rlCh, rlAx, rlSg, rlOk, inI, icmp]; done) | (simp only [ruleP, rlNum, rlCh, rlAx, rlSg, rlOk, inI, icmp]; simp_all; omega) | (simp only [ruleP, rlNum, rlCh, rlAx, rlSg, rlOk, inI, icmp]; simp; omega)
    have x31 : (ruleP kind).num = 3 := by first | (simp [ruleP, rlNum, rlCh, rlAx, rlSg, rlOk, inI, icmp, *]; done) | (simp_all [ruleP, rlNum, rlCh, rlAx, rlSg, rlOk, inI, icmp]; done) | (simp only [ruleP, rlNum, rlCh, rlAx, rlSg, rlOk, inI, icmp]; simp_all; omega) | (simp only [ruleP, rlNum, rlCh, rlAx, rlSg, rlOk, inI, icmp]; simp; omega)
    have x32 : (ruleP kind).ch = 0 := by first | (simp [ruleP, rlNum, rlCh, rlAx, rlSg, rlOk, inI, icmp, *]; done) | (simp_all [ruleP, rlNum, rlCh, rlAx, rlSg, rlOk, inI, icmp]; done) | (simp only [ruleP, rlNum, rlCh, rlAx, rlSg, rlOk, inI, icmp]; simp_all; omega) | (simp only [ruleP, rlNum, rlCh, rlAx, rlSg, rlOk, inI, icmp]; simp; omega)
    have x33 : (ruleP kind).ax = false := by first | (simp [ruleP, rlNum, rlCh, rlAx, rlSg, rlOk, inI, icmp, *]; done) | (simp_all [ruleP, rlNum, rlCh, rlAx, rlSg, rlOk, inI, icmp]; done) | (simp only [ruleP, rlNum, rlCh, rlAx, rlSg, rlOk, inI, icmp]; simp_all; omega) | (simp only [ruleP, rlNum, rlCh, rlAx, rlSg, rlOk, inI, icmp]; simp; omega)
    have x34 : (ruleP kind).sg = 1 := by first | (simp [ruleP, rlNum, rlCh, rlAx, rlSg, rlOk, inI, icmp, *]; done) | (simp_all [ruleP, rlNum, rlCh, rlAx, rlSg, rlOk, inI, icmp]; done) | (simp only [ruleP, rlNum, rlCh, rlAx, rlSg, rlOk, inI, icmp]; simp_all; omega) | (simp only [ruleP, rlNum, rlCh, rlAx, rlSg, rlOk, inI, icmp]; simp; omega)
    exact ⟨[(Iv 3), (Iv 0), (Bo false), (Iv 1)], (by first | with_reducible rfl | rw [x30] | rfl), (by first | with_reducible rfl | (show _ = _; simp only [x31, x32, x33, x34]) | rfl)⟩
  have c24' := c24
  (try simp only [icmp, Bool.and_eq_true, Bool.or_eq_true, Bool.and_eq_false_iff, Bool.or_eq_false_iff, Bool.not_eq_true', Bool.not_eq_false', decide_eq_true_eq, decide_eq_false_iff_not, beq_iff_eq, bne_iff_ne, beq_eq_false_iff_ne, bne_eq_false_iff_eq] at c24')
  refine wp_seq_k fun K35 hK35 => ?_
  refine wp_seq_k fun K36 hK36 => ?_
  refine wp_region_lit ?_
  refine q_is rfl rfl (does_icmp (p := kind) (q := 2) (.inl rfl) (ev rfl) (ev rfl)) (by dsimp only [List.set]; try rfl) ?_
  refine q_is rfl rfl (does_assign (u := (Bo (icmp .eql kind 2))) (ev rfl)) (by dsimp only [List.set]; try rfl) ?_
  refine wpList_nil (hK36 _ _ ?_)
  refine wp_cond_split (t := icmp .eql kind 2) (ev rfl) (fun c37 => ?_) (fun c37 => ?_)
  · have c37' := c37
    (try simp only [icmp, Bool.and_eq_true, Bool.or_eq_true, Bool.and_eq_false_iff, Bool.or_eq_false_iff, Bool.not_eq_true', Bool.not_eq_false', decide_eq_true_eq, decide_eq_false_iff_not, beq_iff_eq, bne_iff_ne, beq_eq_false_iff_ne, bne_eq_false_iff_eq] at c37')
    refine wp_skip (hK35 _ _ ?_)
    refine wp_cond_true ((ev (rfl : evl _ _ = .bool (icmp .eql kind 2))).trans (congrArg Value.bool c37)) ?_
    refine wp_seq_k fun K38 hK38 => ?_
    refine wp_region_lit ?_
    refine q_is rfl rfl (does_build (parts' := [(0, (Iv 2)), (1, (Iv 0)), (2, (Bo false)), (3, (Iv 1))]) (cells := #[(Iv 2), (Iv 0), (Bo false), (Iv 1)]) (evp rfl) (by kernel_rfl)) (by dsimp only [List.set]; try rfl) ?_
    refine seqn rfl rfl (does_store (n := 4) (cs := [(Iv 0), (Iv 0), (Bo false), (Iv 0)]) (u := (.agg #[(Iv 2), (Iv 0), (Bo false), (Iv 1)])) (ev rfl) (ev rfl) Try.sizeOf141 rfl hB4 (Nat.le_of_ble_eq_true rfl) rfl) ?_; rintro _ w41 ⟨rfl, W39, hB40⟩
    change Blk _ _ [(Iv 2), (Iv 0), (Bo false), (Iv 1)] at hB40
    have X42 := Below.wr X8 W39 g7
    refine q_is rfl rfl (does_assign (u := (Bo true)) (ev rfl)) (by dsimp only [List.set]; try rfl) ?_
    refine wpList_nil (hK38 _ _ ?_)
    refine wp_ret ?_
    dsimp only [Exit.then, Exit.inBlock]
    refine ret_val (v := (.tuple #[(.agg #[(Iv 2), (Iv 0), (Bo false), (Iv 1)]), (Bo true)])) (res_CT rfl (slot rfl) (run_loadAgg (cs := [(Iv 2), (Iv 0), (Bo false), (Iv 1)]) Try.isAgg141 Try.sizeOf141 (Blk.cells hB40) rfl) (slot rfl)) X42 ?_
    have x43 : (rlOk kind) = true := by first | (simp [ruleP, rlNum, rlCh, rlAx, rlSg, rlOk, inI, icmp, *]; done) | (simp_all [ruleP, rlNum, rlCh, rlAx, rlSg, rlOk, inI, icmp]; done) | (simp only [ruleP, rlNum, rlCh, rlAx, rlSg, rlOk, inI, icmp]; simp_all; omega) | (simp only [ruleP, rlNum, rlCh, rlAx, rlSg, rlOk, inI, icmp]; simp; omega)
    have x44 : (ruleP kind).num = 2 := by first | (simp [ruleP, rlNum, rlCh, rlAx, rlSg, rlOk, inI, icmp, *]; done) | (simp_all [ruleP, rlNum, rlCh, rlAx, rlSg, rlOk, inI, icmp]; done) | (simp only [ruleP, rlNum, rlCh, rlAx, rlSg, rlOk, inI, icmp]; simp_all; omega) | (simp only [ruleP, rlNum, rlCh, rlAx, rlSg, rlOk, inI, icmp]; simp; omega)
    have x45 : (ruleP kind).ch = 0 := by first | (simp [ruleP, rlNum, rlCh, rlAx, rlSg, rlOk, inI, icmp, *]; done) | (simp_all [ruleP, rlNum, rlCh, rlAx, rlSg, rlOk, inI, icmp]; done) | (simp only [ruleP, rlNum, rlCh, rlAx, rlSg, rlOk, inI, icmp]; simp_all; omega) | (simp only [ruleP, rlNum, rlCh, rlAx, rlSg, rlOk, inI, icmp]; simp; omega)
    have x46 : (ruleP kind).ax = false := by first | (simp [ruleP, rlNum, rlCh, rlAx, rlSg, rlOk, inI, icmp, *]; done) | (simp_all [ruleP, rlNum, rlCh, rlAx, rlSg, rlOk, inI, icmp]; done) | (simp only [ruleP, rlNum, rlCh, rlAx, rlSg, rlOk, inI, icmp]; simp_all; omega) | (simp only [ruleP, rlNum, rlCh, rlAx, rlSg, rlOk, inI, icmp]; simp; omega)
    have x47 : (ruleP kind).sg = 1 := by first | (simp [ruleP, rlNum, rlCh, rlAx, rlSg, rlOk, inI, icmp, *]; done) | (simp_all [ruleP, rlNum, rlCh, rlAx, rlSg, rlOk, inI, icmp]; done) | (simp only [ruleP, rlNum, rlCh, rlAx, rlSg, rlOk, inI, icmp]; simp_all; omega) | (simp only [ruleP, rlNum, rlCh, rlAx, rlSg, rlOk, inI, icmp]; simp; omega)
    exact ⟨[(Iv 2), (Iv 0), (Bo false), (Iv 1)], (by first | with_reducible rfl | rw [x43] | rfl), (by first | with_reducible rfl | (show _ = _; simp only [x44, x45, x46, x47]) | rfl)⟩
  have c37' := c37
  (try simp only [icmp, Bool.and_eq_true, Bool.or_eq_true, Bool.and_eq_false_iff, Bool.or_eq_false_iff, Bool.not_eq_true', Bool.not_eq_false', decide_eq_true_eq, decide_eq_false_iff_not, beq_iff_eq, bne_iff_ne, beq_eq_false_iff_ne, bne_eq_false_iff_eq] at c37')
  refine wp_region_lit ?_
  refine q_is rfl rfl (does_icmp (p := kind) (q := 3) (.inl rfl) (ev rfl) (ev rfl)) (by dsimp only [List.set]; try rfl) ?_
  refine q_is rfl rfl (does_assign (u := (Bo (icmp .eql kind 3))) (ev rfl)) (by dsimp only [List.set]; try rfl) ?_
  refine wpList_nil (hK35 _ _ ?_)
  refine wp_cond_split (t := icmp .eql kind 3) (ev rfl) (fun c48 => ?_) (fun c48 => ?_)
  · have c48' := c48
    (try simp only [icmp, Bool.and_eq_true, Bool.or_eq_true, Bool.and_eq_false_iff, Bool.or_eq_false_iff, Bool.not_eq_true', Bool.not_eq_false', decide_eq_true_eq, decide_eq_false_iff_not, beq_iff_eq, bne_iff_ne, beq_eq_false_iff_ne, bne_eq_false_iff_eq] at c48')
    refine wp_seq_k fun K49 hK49 => ?_
    refine wp_region_lit ?_
    refine q_is rfl rfl (does_build (parts' := [(0, (Iv 2)), (1, (Iv 0)), (2, (Bo false)), (3, (Iv 1))]) (cells := #[(Iv 2), (Iv 0), (Bo false), (Iv 1)]) (evp rfl) (by kernel_rfl)) (by dsimp only [List.set]; try rfl) ?_
    refine seqn rfl rfl (does_store (n := 4) (cs := [(Iv 0), (Iv 0), (Bo false), (Iv 0)]) (u := (.agg #[(Iv 2), (Iv 0), (Bo false), (Iv 1)])) (ev rfl) (ev rfl) Try.sizeOf141 rfl hB4 (Nat.le_of_ble_eq_true rfl) rfl) ?_; rintro _ w52 ⟨rfl, W50, hB51⟩
    change Blk _ _ [(Iv 2), (Iv 0), (Bo false), (Iv 1)] at hB51
    have X53 := Below.wr X8 W50 g7
    refine q_is rfl rfl (does_assign (u := (Bo true)) (ev rfl)) (by dsimp only [List.set]; try rfl) ?_
    refine wpList_nil (hK49 _ _ ?_)
    refine wp_ret ?_
    dsimp only [Exit.then, Exit.inBlock]
    refine ret_val (v := (.tuple #[(.agg #[(Iv 2), (Iv 0), (Bo false), (Iv 1)]), (Bo true)])) (res_CT rfl (slot rfl) (run_loadAgg (cs := [(Iv 2), (Iv 0), (Bo false), (Iv 1)]) Try.isAgg141 Try.sizeOf141 (Blk.cells hB51) rfl) (slot rfl)) X53 ?_
    have x54 : (rlOk kind) = true := by first | (simp [ruleP, rlNum, rlCh, rlAx, rlSg, rlOk, inI, icmp, *]; done) | (simp_all [ruleP, rlNum, rlCh, rlAx, rlSg, rlOk, inI, icmp]; done) | (simp only [ruleP, rlNum, rlCh, rlAx, rlSg, rlOk, inI, icmp]; simp_all; omega) | (simp only [ruleP, rlNum, rlCh, rlAx, rlSg, rlOk, inI, icmp]; simp; omega)
    have x55 : (ruleP kind).num = 2 := by first | (simp [ruleP, rlNum, rlCh, rlAx, rlSg, rlOk, inI, icmp, *]; done) | (simp_all [ruleP, rlNum, rlCh, rlAx, rlSg, rlOk, inI, icmp]; done) | (simp only [ruleP, rlNum, rlCh, rlAx, rlSg, rlOk, inI, icmp]; simp_all; omega) | (simp only [ruleP, rlNum, rlCh, rlAx, rlSg, rlOk, inI, icmp]; simp; omega)
    have x56 : (ruleP kind).ch = 0 := by first | (simp [ruleP, rlNum, rlCh, rlAx, rlSg, rlOk, inI, icmp, *]; done) | (simp_all [ruleP, rlNum, rlCh, rlAx, rlSg, rlOk, inI, icmp]; done) | (simp only [ruleP, rlNum, rlCh, rlAx, rlSg, rlOk, inI, icmp]; simp_all; omega) | (simp only [ruleP, rlNum, rlCh, rlAx, rlSg, rlOk, inI, icmp]; simp; omega)
    have x57 : (ruleP kind).ax = false := by first | (simp [ruleP, rlNum, rlCh, rlAx, rlSg, rlOk, inI, icmp, *]; done) | (simp_all [ruleP, rlNum, rlCh, rlAx, rlSg, rlOk, inI, icmp]; done) | (simp only [ruleP, rlNum, rlCh, rlAx, rlSg, rlOk, inI, icmp]; simp_all; omega) | (simp only [ruleP, rlNum, rlCh, rlAx, rlSg, rlOk, inI, icmp]; simp; omega)
    have x58 : (ruleP kind).sg = 1 := by first | (simp [ruleP, rlNum, rlCh, rlAx, rlSg, rlOk, inI, icmp, *]; done) | (simp_all [ruleP, rlNum, rlCh, rlAx, rlSg, rlOk, inI, icmp]; done) | (simp only [ruleP, rlNum, rlCh, rlAx, rlSg, rlOk, inI, icmp]; simp_all; omega) | (simp only [ruleP, rlNum, rlCh, rlAx, rlSg, rlOk, inI, icmp]; simp; omega)
    exact ⟨[(Iv 2), (Iv 0), (Bo false), (Iv 1)], (by first | with_reducible rfl | rw [x54] | rfl), (by first | with_reducible rfl | (show _ = _; simp only [x55, x56, x57, x58]) | rfl)⟩
  have c48' := c48
  (try simp only [icmp, Bool.and_eq_true, Bool.or_eq_true, Bool.and_eq_false_iff, Bool.or_eq_false_iff, Bool.not_eq_true', Bool.not_eq_false', decide_eq_true_eq, decide_eq_false_iff_not, beq_iff_eq, bne_iff_ne, beq_eq_false_iff_ne, bne_eq_false_iff_eq] at c48')
  refine wp_seq_k fun K59 hK59 => ?_
  refine wp_region_lit ?_
  refine q_is rfl rfl (does_icmp (p := kind) (q := 4) (.inl rfl) (ev rfl) (ev rfl)) (by dsimp only [List.set]; try rfl) ?_
  refine q_is rfl rfl (does_assign (u := (Bo (icmp .eql kind 4))) (ev rfl)) (by dsimp only [List.set]; try rfl) ?_
  refine wpList_nil (hK59 _ _ ?_)
  refine wp_cond_split (t := icmp .eql kind 4) (ev rfl) (fun c60 => ?_) (fun c60 => ?_)
  · have c60' := c60
    (try simp only [icmp, Bool.and_eq_true, Bool.or_eq_true, Bool.and_eq_false_iff, Bool.or_eq_false_iff, Bool.not_eq_true', Bool.not_eq_false', decide_eq_true_eq, decide_eq_false_iff_not, beq_iff_eq, bne_iff_ne, beq_eq_false_iff_ne, bne_eq_false_iff_eq] at c60')
    refine wp_seq_k fun K61 hK61 => ?_
    refine wp_region_lit ?_
    refine q_is rfl rfl (does_build (parts' := [(0, (Iv 4)), (1, (Iv 0)), (2, (Bo false)), (3, (Iv 0))]) (cells := #[(Iv 4), (Iv 0), (Bo false), (Iv 0)]) (evp rfl) (by kernel_rfl)) (by dsimp only [List.set]; try rfl) ?_
    refine seqn rfl rfl (does_store (n := 4) (cs := [(Iv 0), (Iv 0), (Bo false), (Iv 0)]) (u := (.agg #[(Iv 4), (Iv 0), (Bo false), (Iv 0)])) (ev rfl) (ev rfl) Try.sizeOf141 rfl hB4 (Nat.le_of_ble_eq_true rfl) rfl) ?_; rintro _ w64 ⟨rfl, W62, hB63⟩
    change Blk _ _ [(Iv 4), (Iv 0), (Bo false), (Iv 0)] at hB63
    have X65 := Below.wr X8 W62 g7
    refine q_is rfl rfl (does_assign (u := (Bo true)) (ev rfl)) (by dsimp only [List.set]; try rfl) ?_
    refine wpList_nil (hK61 _ _ ?_)
    refine wp_ret ?_
    dsimp only [Exit.then, Exit.inBlock]
    refine ret_val (v := (.tuple #[(.agg #[(Iv 4), (Iv 0), (Bo false), (Iv 0)]), (Bo true)])) (res_CT rfl (slot rfl) (run_loadAgg (cs := [(Iv 4), (Iv 0), (Bo false), (Iv 0)]) Try.isAgg141 Try.sizeOf141 (Blk.cells hB63) rfl) (slot rfl)) X65 ?_
    have x66 : (rlOk kind) = true := by first | (simp [ruleP, rlNum, rlCh, rlAx, rlSg, rlOk, inI, icmp, *]; done) | (simp_all [ruleP, rlNum, rlCh, rlAx, rlSg, rlOk, inI, icmp]; done) | (simp only [ruleP, rlNum, rlCh, rlAx, rlSg, rlOk, inI, icmp]; simp_all; omega) | (simp only [ruleP, rlNum, rlCh, rlAx, rlSg, rlOk, inI, icmp]; simp; omega)
    have x67 : (ruleP kind).num = 4 := by first | (simp [ruleP, rlNum, rlCh, rlAx, rlSg, rlOk, inI, icmp, *]; done) | (simp_all [ruleP, rlNum, rlCh, rlAx, rlSg, rlOk, inI, icmp]; done) | (simp only [ruleP, rlNum, rlCh, rlAx, rlSg, rlOk, inI, icmp]; simp_all; omega) | (simp only [ruleP, rlNum, rlCh, rlAx, rlSg, rlOk, inI, icmp]; simp; omega)
    have x68 : (ruleP kind).ch = 0 := by first | (simp [ruleP, rlNum, rlCh, rlAx, rlSg, rlOk, inI, icmp, *]; done) | (simp_all [ruleP, rlNum, rlCh, rlAx, rlSg, rlOk, inI, icmp]; done) | (simp only [ruleP, rlNum, rlCh, rlAx, rlSg, rlOk, inI, icmp]; simp_all; omega) | (simp only [ruleP, rlNum, rlCh, rlAx, rlSg, rlOk, inI, icmp]; simp; omega)
    have x69 : (ruleP kind).ax = false := by first | (simp [ruleP, rlNum, rlCh, rlAx, rlSg, rlOk, inI, icmp, *]; done) | (simp_all [ruleP, rlNum, rlCh, rlAx, rlSg, rlOk, inI, icmp]; done) | (simp only [ruleP, rlNum, rlCh, rlAx, rlSg, rlOk, inI, icmp]; simp_all; omega) | (simp only [ruleP, rlNum, rlCh, rlAx, rlSg, rlOk, inI, icmp]; simp; omega)
    have x70 : (ruleP kind).sg = 0 := by first | (simp [ruleP, rlNum, rlCh, rlAx, rlSg, rlOk, inI, icmp, *]; done) | (simp_all [ruleP, rlNum, rlCh, rlAx, rlSg, rlOk, inI, icmp]; done) | (simp only [ruleP, rlNum, rlCh, rlAx, rlSg, rlOk, inI, icmp]; simp_all; omega) | (simp only [ruleP, rlNum, rlCh, rlAx, rlSg, rlOk, inI, icmp]; simp; omega)
    exact ⟨[(Iv 4), (Iv 0), (Bo false), (Iv 0)], (by first | with_reducible rfl | rw [x66] | rfl), (by first | with_reducible rfl | (show _ = _; simp only [x67, x68, x69, x70]) | rfl)⟩
  have c60' := c60
  (try simp only [icmp, Bool.and_eq_true, Bool.or_eq_true, Bool.and_eq_false_iff, Bool.or_eq_false_iff, Bool.not_eq_true', Bool.not_eq_false', decide_eq_true_eq, decide_eq_false_iff_not, beq_iff_eq, bne_iff_ne, beq_eq_false_iff_ne, bne_eq_false_iff_eq] at c60')
  refine wp_seq_k fun K71 hK71 => ?_
  refine wp_seq_k fun K72 hK72 => ?_
  refine wp_region_lit ?_
  refine q_is rfl rfl (does_icmp (p := kind) (q := 5) (.inl rfl) (ev rfl) (ev rfl)) (by dsimp only [List.set]; try rfl) ?_
  refine q_is rfl rfl (does_assign (u := (Bo (icmp .eql kind 5))) (ev rfl)) (by dsimp only [List.set]; try rfl) ?_
  refine wpList_nil (hK72 _ _ ?_)
  refine wp_cond_split (t := icmp .eql kind 5) (ev rfl) (fun c73 => ?_) (fun c73 => ?_)
  · have c73' := c73
    (try simp only [icmp, Bool.and_eq_true, Bool.or_eq_true, Bool.and_eq_false_iff, Bool.or_eq_false_iff, Bool.not_eq_true', Bool.not_eq_false', decide_eq_true_eq, decide_eq_false_iff_not, beq_iff_eq, bne_iff_ne, beq_eq_false_iff_ne, bne_eq_false_iff_eq] at c73')
    refine wp_skip (hK71 _ _ ?_)
    refine wp_cond_true ((ev (rfl : evl _ _ = .bool (icmp .eql kind 5))).trans (congrArg Value.bool c73)) ?_
    refine wp_seq_k fun K74 hK74 => ?_
    refine wp_region_lit ?_
    refine q_is rfl rfl (does_build (parts' := [(0, (Iv 0)), (1, (Iv 2)), (2, (Bo false)), (3, (Iv 0))]) (cells := #[(Iv 0), (Iv 2), (Bo false), (Iv 0)]) (evp rfl) (by kernel_rfl)) (by dsimp only [List.set]; try rfl) ?_
    refine seqn rfl rfl (does_store (n := 4) (cs := [(Iv 0), (Iv 0), (Bo false), (Iv 0)]) (u := (.agg #[(Iv 0), (Iv 2), (Bo false), (Iv 0)])) (ev rfl) (ev rfl) Try.sizeOf141 rfl hB4 (Nat.le_of_ble_eq_true rfl) rfl) ?_; rintro _ w77 ⟨rfl, W75, hB76⟩
    change Blk _ _ [(Iv 0), (Iv 2), (Bo false), (Iv 0)] at hB76
    have X78 := Below.wr X8 W75 g7
    refine q_is rfl rfl (does_assign (u := (Bo true)) (ev rfl)) (by dsimp only [List.set]; try rfl) ?_
    refine wpList_nil (hK74 _ _ ?_)
    refine wp_ret ?_
    dsimp only [Exit.then, Exit.inBlock]
    refine ret_val (v := (.tuple #[(.agg #[(Iv 0), (Iv 2), (Bo false), (Iv 0)]), (Bo true)])) (res_CT rfl (slot rfl) (run_loadAgg (cs := [(Iv 0), (Iv 2), (Bo false), (Iv 0)]) Try.isAgg141 Try.sizeOf141 (Blk.cells hB76) rfl) (slot rfl)) X78 ?_
    have x79 : (rlOk kind) = true := by first | (simp [ruleP, rlNum, rlCh, rlAx, rlSg, rlOk, inI, icmp, *]; done) | (simp_all [ruleP, rlNum, rlCh, rlAx, rlSg, rlOk, inI, icmp]; done) | (simp only [ruleP, rlNum, rlCh, rlAx, rlSg, rlOk, inI, icmp]; simp_all; omega) | (simp only [ruleP, rlNum, rlCh, rlAx, rlSg, rlOk, inI, icmp]; simp; omega)
    have x80 : (ruleP kind).num = 0 := by first | (simp [ruleP, rlNum, rlCh, rlAx, rlSg, rlOk, inI, icmp, *]; done) | (simp_all [ruleP, rlNum, rlCh, rlAx, rlSg, rlOk, inI, icmp]; done) | (simp only [ruleP, rlNum, rlCh, rlAx, rlSg, rlOk, inI, icmp]; simp_all; omega) | (simp only [ruleP, rlNum, rlCh, rlAx, rlSg, rlOk, inI, icmp]; simp; omega)
    have x81 : (ruleP kind).ch = 2 := by first | (simp [ruleP, rlNum, rlCh, rlAx, rlSg, rlOk, inI, icmp, *]; done) | (simp_all [ruleP, rlNum, rlCh, rlAx, rlSg, rlOk, inI, icmp]; done) | (simp only [ruleP, rlNum, rlCh, rlAx, rlSg, rlOk, inI, icmp]; simp_all; omega) | (simp only [ruleP, rlNum, rlCh, rlAx, rlSg, rlOk, inI, icmp]; simp; omega)
    have x82 : (ruleP kind).ax = false := by first | (simp [ruleP, rlNum, rlCh, rlAx, rlSg, rlOk, inI, icmp, *]; done) | (simp_all [ruleP, rlNum, rlCh, rlAx, rlSg, rlOk, inI, icmp]; done) | (simp only [ruleP, rlNum, rlCh, rlAx, rlSg, rlOk, inI, icmp]; simp_all; omega) | (simp only [ruleP, rlNum, rlCh, rlAx, rlSg, rlOk, inI, icmp]; simp; omega)
    have x83 : (ruleP kind).sg = 0 := by first | (simp [ruleP, rlNum, rlCh, rlAx, rlSg, rlOk, inI, icmp, *]; done) | (simp_all [ruleP, rlNum, rlCh, rlAx, rlSg, rlOk, inI, icmp]; done) | (simp only [ruleP, rlNum, rlCh, rlAx, rlSg, rlOk, inI, icmp]; simp_all; omega) | (simp only [ruleP, rlNum, rlCh, rlAx, rlSg, rlOk, inI, icmp]; simp; omega)
    exact ⟨[(Iv 0), (Iv 2), (Bo false), (Iv 0)], (by first | with_reducible rfl | rw [x79] | rfl), (by first | with_reducible rfl | (show _ = _; simp only [x80, x81, x82, x83]) | rfl)⟩
  have c73' := c73
  (try simp only [icmp, Bool.and_eq_true, Bool.or_eq_true, Bool.and_eq_false_iff, Bool.or_eq_false_iff, Bool.not_eq_true', Bool.not_eq_false', decide_eq_true_eq, decide_eq_false_iff_not, beq_iff_eq, bne_iff_ne, beq_eq_false_iff_ne, bne_eq_false_iff_eq] at c73')
  refine wp_seq_k fun K84 hK84 => ?_
  refine wp_region_lit ?_
  refine q_is rfl rfl (does_icmp (p := kind) (q := 6) (.inl rfl) (ev rfl) (ev rfl)) (by dsimp only [List.set]; try rfl) ?_
  refine q_is rfl rfl (does_assign (u := (Bo (icmp .eql kind 6))) (ev rfl)) (by dsimp only [List.set]; try rfl) ?_
  refine wpList_nil (hK84 _ _ ?_)
  refine wp_cond_split (t := icmp .eql kind 6) (ev rfl) (fun c85 => ?_) (fun c85 => ?_)
  · have c85' := c85
    (try simp only [icmp, Bool.and_eq_true, Bool.or_eq_true, Bool.and_eq_false_iff, Bool.or_eq_false_iff, Bool.not_eq_true', Bool.not_eq_false', decide_eq_true_eq, decide_eq_false_iff_not, beq_iff_eq, bne_iff_ne, beq_eq_false_iff_ne, bne_eq_false_iff_eq] at c85')
    refine wp_skip (hK71 _ _ ?_)
    refine wp_cond_true ((ev (rfl : evl _ _ = .bool (icmp .eql kind 6))).trans (congrArg Value.bool c85)) ?_
    refine wp_seq_k fun K86 hK86 => ?_
    refine wp_region_lit ?_
    refine q_is rfl rfl (does_build (parts' := [(0, (Iv 0)), (1, (Iv 2)), (2, (Bo false)), (3, (Iv 0))]) (cells := #[(Iv 0), (Iv 2), (Bo false), (Iv 0)]) (evp rfl) (by kernel_rfl)) (by dsimp only [List.set]; try rfl) ?_
    refine seqn rfl rfl (does_store (n := 4) (cs := [(Iv 0), (Iv 0), (Bo false), (Iv 0)]) (u := (.agg #[(Iv 0), (Iv 2), (Bo false), (Iv 0)])) (ev rfl) (ev rfl) Try.sizeOf141 rfl hB4 (Nat.le_of_ble_eq_true rfl) rfl) ?_; rintro _ w89 ⟨rfl, W87, hB88⟩
    change Blk _ _ [(Iv 0), (Iv 2), (Bo false), (Iv 0)] at hB88
    have X90 := Below.wr X8 W87 g7
    refine q_is rfl rfl (does_assign (u := (Bo true)) (ev rfl)) (by dsimp only [List.set]; try rfl) ?_
    refine wpList_nil (hK86 _ _ ?_)
    refine wp_ret ?_
    dsimp only [Exit.then, Exit.inBlock]
    refine ret_val (v := (.tuple #[(.agg #[(Iv 0), (Iv 2), (Bo false), (Iv 0)]), (Bo true)])) (res_CT rfl (slot rfl) (run_loadAgg (cs := [(Iv 0), (Iv 2), (Bo false), (Iv 0)]) Try.isAgg141 Try.sizeOf141 (Blk.cells hB88) rfl) (slot rfl)) X90 ?_
    have x91 : (rlOk kind) = true := by first | (simp [ruleP, rlNum, rlCh, rlAx, rlSg, rlOk, inI, icmp, *]; done) | (simp_all [ruleP, rlNum, rlCh, rlAx, rlSg, rlOk, inI, icmp]; done) | (simp only [ruleP, rlNum, rlCh, rlAx, rlSg, rlOk, inI, icmp]; simp_all; omega) | (simp only [ruleP, rlNum, rlCh, rlAx, rlSg, rlOk, inI, icmp]; simp; omega)
    have x92 : (ruleP kind).num = 0 := by first | (simp [ruleP, rlNum, rlCh, rlAx, rlSg, rlOk, inI, icmp, *]; done) | (simp_all [ruleP, rlNum, rlCh, rlAx, rlSg, rlOk, inI, icmp]; done) | (simp only [ruleP, rlNum, rlCh, rlAx, rlSg, rlOk, inI, icmp]; simp_all; omega) | (simp only [ruleP, rlNum, rlCh, rlAx, rlSg, rlOk, inI, icmp]; simp; omega)
    have x93 : (ruleP kind).ch = 2 := by first | (simp [ruleP, rlNum, rlCh, rlAx, rlSg, rlOk, inI, icmp, *]; done) | (simp_all [ruleP, rlNum, rlCh, rlAx, rlSg, rlOk, inI, icmp]; done) | (simp only [ruleP, rlNum, rlCh, rlAx, rlSg, rlOk, inI, icmp]; simp_all; omega) | (simp only [ruleP, rlNum, rlCh, rlAx, rlSg, rlOk, inI, icmp]; simp; omega)
    have x94 : (ruleP kind).ax = false := by first | (simp [ruleP, rlNum, rlCh, rlAx, rlSg, rlOk, inI, icmp, *]; done) | (simp_all [ruleP, rlNum, rlCh, rlAx, rlSg, rlOk, inI, icmp]; done) | (simp only [ruleP, rlNum, rlCh, rlAx, rlSg, rlOk, inI, icmp]; simp_all; omega) | (simp only [ruleP, rlNum, rlCh, rlAx, rlSg, rlOk, inI, icmp]; simp; omega)
    have x95 : (ruleP kind).sg = 0 := by first | (simp [ruleP, rlNum, rlCh, rlAx, rlSg, rlOk, inI, icmp, *]; done) | (simp_all [ruleP, rlNum, rlCh, rlAx, rlSg, rlOk, inI, icmp]; done) | (simp only [ruleP, rlNum, rlCh, rlAx, rlSg, rlOk, inI, icmp]; simp_all; omega) | (simp only [ruleP, rlNum, rlCh, rlAx, rlSg, rlOk, inI, icmp]; simp; omega)
    exact ⟨[(Iv 0), (Iv 2), (Bo false), (Iv 0)], (by first | with_reducible rfl | rw [x91] | rfl), (by first | with_reducible rfl | (show _ = _; simp only [x92, x93, x94, x95]) | rfl)⟩
  have c85' := c85
  (try simp only [icmp, Bool.and_eq_true, Bool.or_eq_true, Bool.and_eq_false_iff, Bool.or_eq_false_iff, Bool.not_eq_true', Bool.not_eq_false', decide_eq_true_eq, decide_eq_false_iff_not, beq_iff_eq, bne_iff_ne, beq_eq_false_iff_ne, bne_eq_false_iff_eq] at c85')
  refine wp_region_lit ?_
  refine q_is rfl rfl (does_icmp (p := kind) (q := 7) (.inl rfl) (ev rfl) (ev rfl)) (by dsimp only [List.set]; try rfl) ?_
  refine q_is rfl rfl (does_assign (u := (Bo (icmp .eql kind 7))) (ev rfl)) (by dsimp only [List.set]; try rfl) ?_
  refine wpList_nil (hK71 _ _ ?_)
  refine wp_cond_split (t := icmp .eql kind 7) (ev rfl) (fun c96 => ?_) (fun c96 => ?_)
  · have c96' := c96
    (try simp only [icmp, Bool.and_eq_true, Bool.or_eq_true, Bool.and_eq_false_iff, Bool.or_eq_false_iff, Bool.not_eq_true', Bool.not_eq_false', decide_eq_true_eq, decide_eq_false_iff_not, beq_iff_eq, bne_iff_ne, beq_eq_false_iff_ne, bne_eq_false_iff_eq] at c96')
    refine wp_seq_k fun K97 hK97 => ?_
    refine wp_region_lit ?_
    refine q_is rfl rfl (does_build (parts' := [(0, (Iv 0)), (1, (Iv 2)), (2, (Bo false)), (3, (Iv 0))]) (cells := #[(Iv 0), (Iv 2), (Bo false), (Iv 0)]) (evp rfl) (by kernel_rfl)) (by dsimp only [List.set]; try rfl) ?_
    refine seqn rfl rfl (does_store (n := 4) (cs := [(Iv 0), (Iv 0), (Bo false), (Iv 0)]) (u := (.agg #[(Iv 0), (Iv 2), (Bo false), (Iv 0)])) (ev rfl) (ev rfl) Try.sizeOf141 rfl hB4 (Nat.le_of_ble_eq_true rfl) rfl) ?_; rintro _ w100 ⟨rfl, W98, hB99⟩
    change Blk _ _ [(Iv 0), (Iv 2), (Bo false), (Iv 0)] at hB99
    have X101 := Below.wr X8 W98 g7
    refine q_is rfl rfl (does_assign (u := (Bo true)) (ev rfl)) (by dsimp only [List.set]; try rfl) ?_
    refine wpList_nil (hK97 _ _ ?_)
    refine wp_ret ?_
    dsimp only [Exit.then, Exit.inBlock]
    refine ret_val (v := (.tuple #[(.agg #[(Iv 0), (Iv 2), (Bo false), (Iv 0)]), (Bo true)])) (res_CT rfl (slot rfl) (run_loadAgg (cs := [(Iv 0), (Iv 2), (Bo false), (Iv 0)]) Try.isAgg141 Try.sizeOf141 (Blk.cells hB99) rfl) (slot rfl)) X101 ?_
    have x102 : (rlOk kind) = true := by first | (simp [ruleP, rlNum, rlCh, rlAx, rlSg, rlOk, inI, icmp, *]; done) | (simp_all [ruleP, rlNum, rlCh, rlAx, rlSg, rlOk, inI, icmp]; done) | (simp only [ruleP, rlNum, rlCh, rlAx, rlSg, rlOk, inI, icmp]; simp_all; omega) | (simp only [ruleP, rlNum, rlCh, rlAx, rlSg, rlOk, inI, icmp]; simp; omega)
    have x103 : (ruleP kind).num = 0 := by first | (simp [ruleP, rlNum, rlCh, rlAx, rlSg, rlOk, inI, icmp, *]; done) | (simp_all [ruleP, rlNum, rlCh, rlAx, rlSg, rlOk, inI, icmp]; done) | (simp only [ruleP, rlNum, rlCh, rlAx, rlSg, rlOk, inI, icmp]; simp_all; omega) | (simp only [ruleP, rlNum, rlCh, rlAx, rlSg, rlOk, inI, icmp]; simp; omega)
    have x104 : (ruleP kind).ch = 2 := by first | (simp [ruleP, rlNum, rlCh, rlAx, rlSg, rlOk, inI, icmp, *]; done) | (simp_all [ruleP, rlNum, rlCh, rlAx, rlSg, rlOk, inI, icmp]; done) | (simp only [ruleP, rlNum, rlCh, rlAx, rlSg, rlOk, inI, icmp]; simp_all; omega) | (simp only [ruleP, rlNum, rlCh, rlAx, rlSg, rlOk, inI, icmp]; simp; omega)
    have x105 : (ruleP kind).ax = false := by first | (simp [ruleP, rlNum, rlCh, rlAx, rlSg, rlOk, inI, icmp, *]; done) | (simp_all [ruleP, rlNum, rlCh, rlAx, rlSg, rlOk, inI, icmp]; done) | (simp only [ruleP, rlNum, rlCh, rlAx, rlSg, rlOk, inI, icmp]; simp_all; omega) | (simp only [ruleP, rlNum, rlCh, rlAx, rlSg, rlOk, inI, icmp]; simp; omega)
    have x106 : (ruleP kind).sg = 0 := by first | (simp [ruleP, rlNum, rlCh, rlAx, rlSg, rlOk, inI, icmp, *]; done) | (simp_all [ruleP, rlNum, rlCh, rlAx, rlSg, rlOk, inI, icmp]; done) | (simp only [ruleP, rlNum, rlCh, rlAx, rlSg, rlOk, inI, icmp]; simp_all; omega) | (simp only [ruleP, rlNum, rlCh, rlAx, rlSg, rlOk, inI, icmp]; simp; omega)
    exact ⟨[(Iv 0), (Iv 2), (Bo false), (Iv 0)], (by first | with_reducible rfl | rw [x102] | rfl), (by first | with_reducible rfl | (show _ = _; simp only [x103, x104, x105, x106]) | rfl)⟩
  have c96' := c96
  (try simp only [icmp, Bool.and_eq_true, Bool.or_eq_true, Bool.and_eq_false_iff, Bool.or_eq_false_iff, Bool.not_eq_true', Bool.not_eq_false', decide_eq_true_eq, decide_eq_false_iff_not, beq_iff_eq, bne_iff_ne, beq_eq_false_iff_ne, bne_eq_false_iff_eq] at c96')
  refine wp_seq_k fun K107 hK107 => ?_
  refine wp_region_lit ?_
  refine q_is rfl rfl (does_icmp (p := kind) (q := 8) (.inl rfl) (ev rfl) (ev rfl)) (by dsimp only [List.set]; try rfl) ?_
  refine q_is rfl rfl (does_assign (u := (Bo (icmp .eql kind 8))) (ev rfl)) (by dsimp only [List.set]; try rfl) ?_
  refine wpList_nil (hK107 _ _ ?_)
  refine wp_cond_split (t := icmp .eql kind 8) (ev rfl) (fun c108 => ?_) (fun c108 => ?_)
  · have c108' := c108
    (try simp only [icmp, Bool.and_eq_true, Bool.or_eq_true, Bool.and_eq_false_iff, Bool.or_eq_false_iff, Bool.not_eq_true', Bool.not_eq_false', decide_eq_true_eq, decide_eq_false_iff_not, beq_iff_eq, bne_iff_ne, beq_eq_false_iff_ne, bne_eq_false_iff_eq] at c108')
    refine wp_seq_k fun K109 hK109 => ?_
    refine wp_region_lit ?_
    refine q_is rfl rfl (does_build (parts' := [(0, (Iv 1)), (1, (Iv 2)), (2, (Bo false)), (3, (Iv 2))]) (cells := #[(Iv 1), (Iv 2), (Bo false), (Iv 2)]) (evp rfl) (by kernel_rfl)) (by dsimp only [List.set]; try rfl) ?_
    refine seqn rfl rfl (does_store (n := 4) (cs := [(Iv 0), (Iv 0), (Bo false), (Iv 0)]) (u := (.agg #[(Iv 1), (Iv 2), (Bo false), (Iv 2)])) (ev rfl) (ev rfl) Try.sizeOf141 rfl hB4 (Nat.le_of_ble_eq_true rfl) rfl) ?_; rintro _ w112 ⟨rfl, W110, hB111⟩
    change Blk _ _ [(Iv 1), (Iv 2), (Bo false), (Iv 2)] at hB111
    have X113 := Below.wr X8 W110 g7
    refine q_is rfl rfl (does_assign (u := (Bo true)) (ev rfl)) (by dsimp only [List.set]; try rfl) ?_
    refine wpList_nil (hK109 _ _ ?_)
    refine wp_ret ?_
    dsimp only [Exit.then, Exit.inBlock]
    refine ret_val (v := (.tuple #[(.agg #[(Iv 1), (Iv 2), (Bo false), (Iv 2)]), (Bo true)])) (res_CT rfl (slot rfl) (run_loadAgg (cs := [(Iv 1), (Iv 2), (Bo false), (Iv 2)]) Try.isAgg141 Try.sizeOf141 (Blk.cells hB111) rfl) (slot rfl)) X113 ?_
    have x114 : (rlOk kind) = true := by first | (simp [ruleP, rlNum, rlCh, rlAx, rlSg, rlOk, inI, icmp, *]; done) | (simp_all [ruleP, rlNum, rlCh, rlAx, rlSg, rlOk, inI, icmp]; done) | (simp only [ruleP, rlNum, rlCh, rlAx, rlSg, rlOk, inI, icmp]; simp_all; omega) | (simp only [ruleP, rlNum, rlCh, rlAx, rlSg, rlOk, inI, icmp]; simp; omega)
    have x115 : (ruleP kind).num = 1 := by first | (simp [ruleP, rlNum, rlCh, rlAx, rlSg, rlOk, inI, icmp, *]; done) | (simp_all [ruleP, rlNum, rlCh, rlAx, rlSg, rlOk, inI, icmp]; done) | (simp only [ruleP, rlNum, rlCh, rlAx, rlSg, rlOk, inI, icmp]; simp_all; omega) | (simp only [ruleP, rlNum, rlCh, rlAx, rlSg, rlOk, inI, icmp]; simp; omega)
    have x116 : (ruleP kind).ch = 2 := by first | (simp [ruleP, rlNum, rlCh, rlAx, rlSg, rlOk, inI, icmp, *]; done) | (simp_all [ruleP, rlNum, rlCh, rlAx, rlSg, rlOk, inI, icmp]; done) | (simp only [ruleP, rlNum, rlCh, rlAx, rlSg, rlOk, inI, icmp]; simp_all; omega) | (simp only [ruleP, rlNum, rlCh, rlAx, rlSg, rlOk, inI, icmp]; simp; omega)
    have x117 : (ruleP kind).ax = false := by first | (simp [ruleP, rlNum, rlCh, rlAx, rlSg, rlOk, inI, icmp, *]; done) | (simp_all [ruleP, rlNum, rlCh, rlAx, rlSg, rlOk, inI, icmp]; done) | (simp only [ruleP, rlNum, rlCh, rlAx, rlSg, rlOk, inI, icmp]; simp_all; omega) | (simp only [ruleP, rlNum, rlCh, rlAx, rlSg, rlOk, inI, icmp]; simp; omega)
    have x118 : (ruleP kind).sg = 2 := by first | (simp [ruleP, rlNum, rlCh, rlAx, rlSg, rlOk, inI, icmp, *]; done) | (simp_all [ruleP, rlNum, rlCh, rlAx, rlSg, rlOk, inI, icmp]; done) | (simp only [ruleP, rlNum, rlCh, rlAx, rlSg, rlOk, inI, icmp]; simp_all; omega) | (simp only [ruleP, rlNum, rlCh, rlAx, rlSg, rlOk, inI, icmp]; simp; omega)
    exact ⟨[(Iv 1), (Iv 2), (Bo false), (Iv 2)], (by first | with_reducible rfl | rw [x114] | rfl), (by first | with_reducible rfl | (show _ = _; simp only [x115, x116, x117, x118]) | rfl)⟩
  have c108' := c108
  (try simp only [icmp, Bool.and_eq_true, Bool.or_eq_true, Bool.and_eq_false_iff, Bool.or_eq_false_iff, Bool.not_eq_true', Bool.not_eq_false', decide_eq_true_eq, decide_eq_false_iff_not, beq_iff_eq, bne_iff_ne, beq_eq_false_iff_ne, bne_eq_false_iff_eq] at c108')
  refine wp_seq_k fun K119 hK119 => ?_
  refine wp_region_lit ?_
  refine q_is rfl rfl (does_icmp (p := kind) (q := 9) (.inl rfl) (ev rfl) (ev rfl)) (by dsimp only [List.set]; try rfl) ?_
  refine q_is rfl rfl (does_assign (u := (Bo (icmp .eql kind 9))) (ev rfl)) (by dsimp only [List.set]; try rfl) ?_
  refine wpList_nil (hK119 _ _ ?_)
  refine wp_cond_split (t := icmp .eql kind 9) (ev rfl) (fun c120 => ?_) (fun c120 => ?_)
  · have c120' := c120
    (try simp only [icmp, Bool.and_eq_true, Bool.or_eq_true, Bool.and_eq_false_iff, Bool.or_eq_false_iff, Bool.not_eq_true', Bool.not_eq_false', decide_eq_true_eq, decide_eq_false_iff_not, beq_iff_eq, bne_iff_ne, beq_eq_false_iff_ne, bne_eq_false_iff_eq] at c120')
    refine wp_seq_k fun K121 hK121 => ?_
    refine wp_region_lit ?_
    refine q_is rfl rfl (does_build (parts' := [(0, (Iv 3)), (1, (Iv 1)), (2, (Bo false)), (3, (Iv 0))]) (cells := #[(Iv 3), (Iv 1), (Bo false), (Iv 0)]) (evp rfl) (by kernel_rfl)) (by dsimp only [List.set]; try rfl) ?_
    refine seqn rfl rfl (does_store (n := 4) (cs := [(Iv 0), (Iv 0), (Bo false), (Iv 0)]) (u := (.agg #[(Iv 3), (Iv 1), (Bo false), (Iv 0)])) (ev rfl) (ev rfl) Try.sizeOf141 rfl hB4 (Nat.le_of_ble_eq_true rfl) rfl) ?_; rintro _ w124 ⟨rfl, W122, hB123⟩
    change Blk _ _ [(Iv 3), (Iv 1), (Bo false), (Iv 0)] at hB123
    have X125 := Below.wr X8 W122 g7
    refine q_is rfl rfl (does_assign (u := (Bo true)) (ev rfl)) (by dsimp only [List.set]; try rfl) ?_
    refine wpList_nil (hK121 _ _ ?_)
    refine wp_ret ?_
    dsimp only [Exit.then, Exit.inBlock]
    refine ret_val (v := (.tuple #[(.agg #[(Iv 3), (Iv 1), (Bo false), (Iv 0)]), (Bo true)])) (res_CT rfl (slot rfl) (run_loadAgg (cs := [(Iv 3), (Iv 1), (Bo false), (Iv 0)]) Try.isAgg141 Try.sizeOf141 (Blk.cells hB123) rfl) (slot rfl)) X125 ?_
    have x126 : (rlOk kind) = true := by first | (simp [ruleP, rlNum, rlCh, rlAx, rlSg, rlOk, inI, icmp, *]; done) | (simp_all [ruleP, rlNum, rlCh, rlAx, rlSg, rlOk, inI, icmp]; done) | (simp only [ruleP, rlNum, rlCh, rlAx, rlSg, rlOk, inI, icmp]; simp_all; omega) | (simp only [ruleP, rlNum, rlCh, rlAx, rlSg, rlOk, inI, icmp]; simp; omega)
    have x127 : (ruleP kind).num = 3 := by first | (simp [ruleP, rlNum, rlCh, rlAx, rlSg, rlOk, inI, icmp, *]; done) | (simp_all [ruleP, rlNum, rlCh, rlAx, rlSg, rlOk, inI, icmp]; done) | (simp only [ruleP, rlNum, rlCh, rlAx, rlSg, rlOk, inI, icmp]; simp_all; omega) | (simp only [ruleP, rlNum, rlCh, rlAx, rlSg, rlOk, inI, icmp]; simp; omega)
    have x128 : (ruleP kind).ch = 1 := by first | (simp [ruleP, rlNum, rlCh, rlAx, rlSg, rlOk, inI, icmp, *]; done) | (simp_all [ruleP, rlNum, rlCh, rlAx, rlSg, rlOk, inI, icmp]; done) | (simp only [ruleP, rlNum, rlCh, rlAx, rlSg, rlOk, inI, icmp]; simp_all; omega) | (simp only [ruleP, rlNum, rlCh, rlAx, rlSg, rlOk, inI, icmp]; simp; omega)
    have x129 : (ruleP kind).ax = false := by first | (simp [ruleP, rlNum, rlCh, rlAx, rlSg, rlOk, inI, icmp, *]; done) | (simp_all [ruleP, rlNum, rlCh, rlAx, rlSg, rlOk, inI, icmp]; done) | (simp only [ruleP, rlNum, rlCh, rlAx, rlSg, rlOk, inI, icmp]; simp_all; omega) | (simp only [ruleP, rlNum, rlCh, rlAx, rlSg, rlOk, inI, icmp]; simp; omega)
    have x130 : (ruleP kind).sg = 0 := by first | (simp [ruleP, rlNum, rlCh, rlAx, rlSg, rlOk, inI, icmp, *]; done) | (simp_all [ruleP, rlNum, rlCh, rlAx, rlSg, rlOk, inI, icmp]; done) | (simp only [ruleP, rlNum, rlCh, rlAx, rlSg, rlOk, inI, icmp]; simp_all; omega) | (simp only [ruleP, rlNum, rlCh, rlAx, rlSg, rlOk, inI, icmp]; simp; omega)
    exact ⟨[(Iv 3), (Iv 1), (Bo false), (Iv 0)], (by first | with_reducible rfl | rw [x126] | rfl), (by first | with_reducible rfl | (show _ = _; simp only [x127, x128, x129, x130]) | rfl)⟩
  have c120' := c120
  (try simp only [icmp, Bool.and_eq_true, Bool.or_eq_true, Bool.and_eq_false_iff, Bool.or_eq_false_iff, Bool.not_eq_true', Bool.not_eq_false', decide_eq_true_eq, decide_eq_false_iff_not, beq_iff_eq, bne_iff_ne, beq_eq_false_iff_ne, bne_eq_false_iff_eq] at c120')
  refine wp_seq_k fun K131 hK131 => ?_
  refine wp_region_lit ?_
  refine q_is rfl rfl (does_icmp (p := kind) (q := 10) (.inl rfl) (ev rfl) (ev rfl)) (by dsimp only [List.set]; try rfl) ?_
  refine q_is rfl rfl (does_assign (u := (Bo (icmp .eql kind 10))) (ev rfl)) (by dsimp only [List.set]; try rfl) ?_
  refine wpList_nil (hK131 _ _ ?_)
  refine wp_cond_split (t := icmp .eql kind 10) (ev rfl) (fun c132 => ?_) (fun c132 => ?_)
  · have c132' := c132
    (try simp only [icmp, Bool.and_eq_true, Bool.or_eq_true, Bool.and_eq_false_iff, Bool.or_eq_false_iff, Bool.not_eq_true', Bool.not_eq_false', decide_eq_true_eq, decide_eq_false_iff_not, beq_iff_eq, bne_iff_ne, beq_eq_false_iff_ne, bne_eq_false_iff_eq] at c132')
    refine wp_seq_k fun K133 hK133 => ?_
    refine wp_region_lit ?_
    refine q_is rfl rfl (does_build (parts' := [(0, (Iv 1)), (1, (Iv 1)), (2, (Bo false)), (3, (Iv 2))]) (cells := #[(Iv 1), (Iv 1), (Bo false), (Iv 2)]) (evp rfl) (by kernel_rfl)) (by dsimp only [List.set]; try rfl) ?_
    refine seqn rfl rfl (does_store (n := 4) (cs := [(Iv 0), (Iv 0), (Bo false), (Iv 0)]) (u := (.agg #[(Iv 1), (Iv 1), (Bo false), (Iv 2)])) (ev rfl) (ev rfl) Try.sizeOf141 rfl hB4 (Nat.le_of_ble_eq_true rfl) rfl) ?_; rintro _ w136 ⟨rfl, W134, hB135⟩
    change Blk _ _ [(Iv 1), (Iv 1), (Bo false), (Iv 2)] at hB135
    have X137 := Below.wr X8 W134 g7
    refine q_is rfl rfl (does_assign (u := (Bo true)) (ev rfl)) (by dsimp only [List.set]; try rfl) ?_
    refine wpList_nil (hK133 _ _ ?_)
    refine wp_ret ?_
    dsimp only [Exit.then, Exit.inBlock]
    refine ret_val (v := (.tuple #[(.agg #[(Iv 1), (Iv 1), (Bo false), (Iv 2)]), (Bo true)])) (res_CT rfl (slot rfl) (run_loadAgg (cs := [(Iv 1), (Iv 1), (Bo false), (Iv 2)]) Try.isAgg141 Try.sizeOf141 (Blk.cells hB135) rfl) (slot rfl)) X137 ?_
    have x138 : (rlOk kind) = true := by first | (simp [ruleP, rlNum, rlCh, rlAx, rlSg, rlOk, inI, icmp, *]; done) | (simp_all [ruleP, rlNum, rlCh, rlAx, rlSg, rlOk, inI, icmp]; done) | (simp only [ruleP, rlNum, rlCh, rlAx, rlSg, rlOk, inI, icmp]; simp_all; omega) | (simp only [ruleP, rlNum, rlCh, rlAx, rlSg, rlOk, inI, icmp]; simp; omega)
    have x139 : (ruleP kind).num = 1 := by first | (simp [ruleP, rlNum, rlCh, rlAx, rlSg, rlOk, inI, icmp, *]; done) | (simp_all [ruleP, rlNum, rlCh, rlAx, rlSg, rlOk, inI, icmp]; done) | (simp only [ruleP, rlNum, rlCh, rlAx, rlSg, rlOk, inI, icmp]; simp_all; omega) | (simp only [ruleP, rlNum, rlCh, rlAx, rlSg, rlOk, inI, icmp]; simp; omega)
    have x140 : (ruleP kind).ch = 1 := by first | (simp [ruleP, rlNum, rlCh, rlAx, rlSg, rlOk, inI, icmp, *]; done) | (simp_all [ruleP, rlNum, rlCh, rlAx, rlSg, rlOk, inI, icmp]; done) | (simp only [ruleP, rlNum, rlCh, rlAx, rlSg, rlOk, inI, icmp]; simp_all; omega) | (simp only [ruleP, rlNum, rlCh, rlAx, rlSg, rlOk, inI, icmp]; simp; omega)
    have x141 : (ruleP kind).ax = false := by first | (simp [ruleP, rlNum, rlCh, rlAx, rlSg, rlOk, inI, icmp, *]; done) | (simp_all [ruleP, rlNum, rlCh, rlAx, rlSg, rlOk, inI, icmp]; done) | (simp only [ruleP, rlNum, rlCh, rlAx, rlSg, rlOk, inI, icmp]; simp_all; omega) | (simp only [ruleP, rlNum, rlCh, rlAx, rlSg, rlOk, inI, icmp]; simp; omega)
    have x142 : (ruleP kind).sg = 2 := by first | (simp [ruleP, rlNum, rlCh, rlAx, rlSg, rlOk, inI, icmp, *]; done) | (simp_all [ruleP, rlNum, rlCh, rlAx, rlSg, rlOk, inI, icmp]; done) | (simp only [ruleP, rlNum, rlCh, rlAx, rlSg, rlOk, inI, icmp]; simp_all; omega) | (simp only [ruleP, rlNum, rlCh, rlAx, rlSg, rlOk, inI, icmp]; simp; omega)
    exact ⟨[(Iv 1), (Iv 1), (Bo false), (Iv 2)], (by first | with_reducible rfl | rw [x138] | rfl), (by first | with_reducible rfl | (show _ = _; simp only [x139, x140, x141, x142]) | rfl)⟩
  have c132' := c132
  (try simp only [icmp, Bool.and_eq_true, Bool.or_eq_true, Bool.and_eq_false_iff, Bool.or_eq_false_iff, Bool.not_eq_true', Bool.not_eq_false', decide_eq_true_eq, decide_eq_false_iff_not, beq_iff_eq, bne_iff_ne, beq_eq_false_iff_ne, bne_eq_false_iff_eq] at c132')
  refine wp_seq_k fun K143 hK143 => ?_
  refine wp_region_lit ?_
  refine q_is rfl rfl (does_icmp (p := kind) (q := 11) (.inl rfl) (ev rfl) (ev rfl)) (by dsimp only [List.set]; try rfl) ?_
  refine q_is rfl rfl (does_assign (u := (Bo (icmp .eql kind 11))) (ev rfl)) (by dsimp only [List.set]; try rfl) ?_
  refine wpList_nil (hK143 _ _ ?_)
  refine wp_cond_split (t := icmp .eql kind 11) (ev rfl) (fun c144 => ?_) (fun c144 => ?_)
  · have c144' := c144
    (try simp only [icmp, Bool.and_eq_true, Bool.or_eq_true, Bool.and_eq_false_iff, Bool.or_eq_false_iff, Bool.not_eq_true', Bool.not_eq_false', decide_eq_true_eq, decide_eq_false_iff_not, beq_iff_eq, bne_iff_ne, beq_eq_false_iff_ne, bne_eq_false_iff_eq] at c144')
    refine wp_seq_k fun K145 hK145 => ?_
    refine wp_region_lit ?_
    refine q_is rfl rfl (does_build (parts' := [(0, (Iv 3)), (1, (Iv 1)), (2, (Bo false)), (3, (Iv 2))]) (cells := #[(Iv 3), (Iv 1), (Bo false), (Iv 2)]) (evp rfl) (by kernel_rfl)) (by dsimp only [List.set]; try rfl) ?_
    refine seqn rfl rfl (does_store (n := 4) (cs := [(Iv 0), (Iv 0), (Bo false), (Iv 0)]) (u := (.agg #[(Iv 3), (Iv 1), (Bo false), (Iv 2)])) (ev rfl) (ev rfl) Try.sizeOf141 rfl hB4 (Nat.le_of_ble_eq_true rfl) rfl) ?_; rintro _ w148 ⟨rfl, W146, hB147⟩
    change Blk _ _ [(Iv 3), (Iv 1), (Bo false), (Iv 2)] at hB147
    have X149 := Below.wr X8 W146 g7
    refine q_is rfl rfl (does_assign (u := (Bo true)) (ev rfl)) (by dsimp only [List.set]; try rfl) ?_
    refine wpList_nil (hK145 _ _ ?_)
    refine wp_ret ?_
    dsimp only [Exit.then, Exit.inBlock]
    refine ret_val (v := (.tuple #[(.agg #[(Iv 3), (Iv 1), (Bo false), (Iv 2)]), (Bo true)])) (res_CT rfl (slot rfl) (run_loadAgg (cs := [(Iv 3), (Iv 1), (Bo false), (Iv 2)]) Try.isAgg141 Try.sizeOf141 (Blk.cells hB147) rfl) (slot rfl)) X149 ?_
    have x150 : (rlOk kind) = true := by first | (simp [ruleP, rlNum, rlCh, rlAx, rlSg, rlOk, inI, icmp, *]; done) | (simp_all [ruleP, rlNum, rlCh, rlAx, rlSg, rlOk, inI, icmp]; done) | (simp only [ruleP, rlNum, rlCh, rlAx, rlSg, rlOk, inI, icmp]; simp_all; omega) | (simp only [ruleP, rlNum, rlCh, rlAx, rlSg, rlOk, inI, icmp]; simp; omega)
    have x151 : (ruleP kind).num = 3 := by first | (simp [ruleP, rlNum, rlCh, rlAx, rlSg, rlOk, inI, icmp, *]; done) | (simp_all [ruleP, rlNum, rlCh, rlAx, rlSg, rlOk, inI, icmp]; done) | (simp only [ruleP, rlNum, rlCh, rlAx, rlSg, rlOk, inI, icmp]; simp_all; omega) | (simp only [ruleP, rlNum, rlCh, rlAx, rlSg, rlOk, inI, icmp]; simp; omega)
    have x152 : (ruleP kind).ch = 1 := by first | (simp [ruleP, rlNum, rlCh, rlAx, rlSg, rlOk, inI, icmp, *]; done) | (simp_all [ruleP, rlNum, rlCh, rlAx, rlSg, rlOk, inI, icmp]; done) | (simp only [ruleP, rlNum, rlCh, rlAx, rlSg, rlOk, inI, icmp]; simp_all; omega) | (simp only [ruleP, rlNum, rlCh, rlAx, rlSg, rlOk, inI, icmp]; simp; omega)
    have x153 : (ruleP kind).ax = false := by first | (simp [ruleP, rlNum, rlCh, rlAx, rlSg, rlOk, inI, icmp, *]; done) | (simp_all [ruleP, rlNum, rlCh, rlAx, rlSg, rlOk, inI, icmp]; done) | (simp only [ruleP, rlNum, rlCh, rlAx, rlSg, rlOk, inI, icmp]; simp_all; omega) | (simp only [ruleP, rlNum, rlCh, rlAx, rlSg, rlOk, inI, icmp]; simp; omega)
    have x154 : (ruleP kind).sg = 2 := by first | (simp [ruleP, rlNum, rlCh, rlAx, rlSg, rlOk, inI, icmp, *]; done) | (simp_all [ruleP, rlNum, rlCh, rlAx, rlSg, rlOk, inI, icmp]; done) | (simp only [ruleP, rlNum, rlCh, rlAx, rlSg, rlOk, inI, icmp]; simp_all; omega) | (simp only [ruleP, rlNum, rlCh, rlAx, rlSg, rlOk, inI, icmp]; simp; omega)
    exact ⟨[(Iv 3), (Iv 1), (Bo false), (Iv 2)], (by first | with_reducible rfl | rw [x150] | rfl), (by first | with_reducible rfl | (show _ = _; simp only [x151, x152, x153, x154]) | rfl)⟩
  have c144' := c144
  (try simp only [icmp, Bool.and_eq_true, Bool.or_eq_true, Bool.and_eq_false_iff, Bool.or_eq_false_iff, Bool.not_eq_true', Bool.not_eq_false', decide_eq_true_eq, decide_eq_false_iff_not, beq_iff_eq, bne_iff_ne, beq_eq_false_iff_ne, bne_eq_false_iff_eq] at c144')
  refine wp_seq_k fun K155 hK155 => ?_
  refine wp_region_lit ?_
  refine q_is rfl rfl (does_icmp (p := kind) (q := 12) (.inl rfl) (ev rfl) (ev rfl)) (by dsimp only [List.set]; try rfl) ?_
  refine q_is rfl rfl (does_assign (u := (Bo (icmp .eql kind 12))) (ev rfl)) (by dsimp only [List.set]; try rfl) ?_
  refine wpList_nil (hK155 _ _ ?_)
  refine wp_cond_split (t := icmp .eql kind 12) (ev rfl) (fun c156 => ?_) (fun c156 => ?_)
  · have c156' := c156
    (try simp only [icmp, Bool.and_eq_true, Bool.or_eq_true, Bool.and_eq_false_iff, Bool.or_eq_false_iff, Bool.not_eq_true', Bool.not_eq_false', decide_eq_true_eq, decide_eq_false_iff_not, beq_iff_eq, bne_iff_ne, beq_eq_false_iff_ne, bne_eq_false_iff_eq] at c156')
    refine wp_seq_k fun K157 hK157 => ?_
    refine wp_region_lit ?_
    refine q_is rfl rfl (does_build (parts' := [(0, (Iv 1)), (1, (Iv 1)), (2, (Bo true)), (3, (Iv 0))]) (cells := #[(Iv 1), (Iv 1), (Bo true), (Iv 0)]) (evp rfl) (by kernel_rfl)) (by dsimp only [List.set]; try rfl) ?_
    refine seqn rfl rfl (does_store (n := 4) (cs := [(Iv 0), (Iv 0), (Bo false), (Iv 0)]) (u := (.agg #[(Iv 1), (Iv 1), (Bo true), (Iv 0)])) (ev rfl) (ev rfl) Try.sizeOf141 rfl hB4 (Nat.le_of_ble_eq_true rfl) rfl) ?_; rintro _ w160 ⟨rfl, W158, hB159⟩
    change Blk _ _ [(Iv 1), (Iv 1), (Bo true), (Iv 0)] at hB159
    have X161 := Below.wr X8 W158 g7
    refine q_is rfl rfl (does_assign (u := (Bo true)) (ev rfl)) (by dsimp only [List.set]; try rfl) ?_
    refine wpList_nil (hK157 _ _ ?_)
    refine wp_ret ?_
    dsimp only [Exit.then, Exit.inBlock]
    refine ret_val (v := (.tuple #[(.agg #[(Iv 1), (Iv 1), (Bo true), (Iv 0)]), (Bo true)])) (res_CT rfl (slot rfl) (run_loadAgg (cs := [(Iv 1), (Iv 1), (Bo true), (Iv 0)]) Try.isAgg141 Try.sizeOf141 (Blk.cells hB159) rfl) (slot rfl)) X161 ?_
    have x162 : (rlOk kind) = true := by first | (simp [ruleP, rlNum, rlCh, rlAx, rlSg, rlOk, inI, icmp, *]; done) | (simp_all [ruleP, rlNum, rlCh, rlAx, rlSg, rlOk, inI, icmp]; done) | (simp only [ruleP, rlNum, rlCh, rlAx, rlSg, rlOk, inI, icmp]; simp_all; omega) | (simp only [ruleP, rlNum, rlCh, rlAx, rlSg, rlOk, inI, icmp]; simp; omega)
    have x163 : (ruleP kind).num = 1 := by first | (simp [ruleP, rlNum, rlCh, rlAx, rlSg, rlOk, inI, icmp, *]; done) | (simp_all [ruleP, rlNum, rlCh, rlAx, rlSg, rlOk, inI, icmp]; done) | (simp only [ruleP, rlNum, rlCh, rlAx, rlSg, rlOk, inI, icmp]; simp_all; omega) | (simp only [ruleP, rlNum, rlCh, rlAx, rlSg, rlOk, inI, icmp]; simp; omega)
    have x164 : (ruleP kind).ch = 1 := by first | (simp [ruleP, rlNum, rlCh, rlAx, rlSg, rlOk, inI, icmp, *]; done) | (simp_all [ruleP, rlNum, rlCh, rlAx, rlSg, rlOk, inI, icmp]; done) | (simp only [ruleP, rlNum, rlCh, rlAx, rlSg, rlOk, inI, icmp]; simp_all; omega) | (simp only [ruleP, rlNum, rlCh, rlAx, rlSg, rlOk, inI, icmp]; simp; omega)
    have x165 : (ruleP kind).ax = true := by first | (simp [ruleP, rlNum, rlCh, rlAx, rlSg, rlOk, inI, icmp, *]; done) | (simp_all [ruleP, rlNum, rlCh, rlAx, rlSg, rlOk, inI, icmp]; done) | (simp only [ruleP, rlNum, rlCh, rlAx, rlSg, rlOk, inI, icmp]; simp_all; omega) | (simp only [ruleP, rlNum, rlCh, rlAx, rlSg, rlOk, inI, icmp]; simp; omega)
    have x166 : (ruleP kind).sg = 0 := by first | (simp [ruleP, rlNum, rlCh, rlAx, rlSg, rlOk, inI, icmp, *]; done) | (simp_all [ruleP, rlNum, rlCh, rlAx, rlSg, rlOk, inI, icmp]; done) | (simp only [ruleP, rlNum, rlCh, rlAx, rlSg, rlOk, inI, icmp]; simp_all; omega) | (simp only [ruleP, rlNum, rlCh, rlAx, rlSg, rlOk, inI, icmp]; simp; omega)
    exact ⟨[(Iv 1), (Iv 1), (Bo true), (Iv 0)], (by first | with_reducible rfl | rw [x162] | rfl), (by first | with_reducible rfl | (show _ = _; simp only [x163, x164, x165, x166]) | rfl)⟩
  have c156' := c156
  (try simp only [icmp, Bool.and_eq_true, Bool.or_eq_true, Bool.and_eq_false_iff, Bool.or_eq_false_iff, Bool.not_eq_true', Bool.not_eq_false', decide_eq_true_eq, decide_eq_false_iff_not, beq_iff_eq, bne_iff_ne, beq_eq_false_iff_ne, bne_eq_false_iff_eq] at c156')
  refine wp_seq_k fun K167 hK167 => ?_
  refine wp_region_lit ?_
  refine q_is rfl rfl (does_icmp (p := kind) (q := 13) (.inl rfl) (ev rfl) (ev rfl)) (by dsimp only [List.set]; try rfl) ?_
  refine q_is rfl rfl (does_assign (u := (Bo (icmp .eql kind 13))) (ev rfl)) (by dsimp only [List.set]; try rfl) ?_
  refine wpList_nil (hK167 _ _ ?_)
  refine wp_cond_split (t := icmp .eql kind 13) (ev rfl) (fun c168 => ?_) (fun c168 => ?_)
  · have c168' := c168
    (try simp only [icmp, Bool.and_eq_true, Bool.or_eq_true, Bool.and_eq_false_iff, Bool.or_eq_false_iff, Bool.not_eq_true', Bool.not_eq_false', decide_eq_true_eq, decide_eq_false_iff_not, beq_iff_eq, bne_iff_ne, beq_eq_false_iff_ne, bne_eq_false_iff_eq] at c168')
    refine wp_seq_k fun K169 hK169 => ?_
    refine wp_region_lit ?_
    refine q_is rfl rfl (does_build (parts' := [(0, (Iv 0)), (1, (Iv 1)), (2, (Bo true)), (3, (Iv 0))]) (cells := #[(Iv 0), (Iv 1), (Bo true), (Iv 0)]) (evp rfl) (by kernel_rfl)) (by dsimp only [List.set]; try rfl) ?_
    refine seqn rfl rfl (does_store (n := 4) (cs := [(Iv 0), (Iv 0), (Bo false), (Iv 0)]) (u := (.agg #[(Iv 0), (Iv 1), (Bo true), (Iv 0)])) (ev rfl) (ev rfl) Try.sizeOf141 rfl hB4 (Nat.le_of_ble_eq_true rfl) rfl) ?_; rintro _ w172 ⟨rfl, W170, hB171⟩
    change Blk _ _ [(Iv 0), (Iv 1), (Bo true), (Iv 0)] at hB171
    have X173 := Below.wr X8 W170 g7
    refine q_is rfl rfl (does_assign (u := (Bo true)) (ev rfl)) (by dsimp only [List.set]; try rfl) ?_
    refine wpList_nil (hK169 _ _ ?_)
    refine wp_ret ?_
    dsimp only [Exit.then, Exit.inBlock]
    refine ret_val (v := (.tuple #[(.agg #[(Iv 0), (Iv 1), (Bo true), (Iv 0)]), (Bo true)])) (res_CT rfl (slot rfl) (run_loadAgg (cs := [(Iv 0), (Iv 1), (Bo true), (Iv 0)]) Try.isAgg141 Try.sizeOf141 (Blk.cells hB171) rfl) (slot rfl)) X173 ?_
    have x174 : (rlOk kind) = true := by first | (simp [ruleP, rlNum, rlCh, rlAx, rlSg, rlOk, inI, icmp, *]; done) | (simp_all [ruleP, rlNum, rlCh, rlAx, rlSg, rlOk, inI, icmp]; done) | (simp only [ruleP, rlNum, rlCh, rlAx, rlSg, rlOk, inI, icmp]; simp_all; omega) | (simp only [ruleP, rlNum, rlCh, rlAx, rlSg, rlOk, inI, icmp]; simp; omega)
    have x175 : (ruleP kind).num = 0 := by first | (simp [ruleP, rlNum, rlCh, rlAx, rlSg, rlOk, inI, icmp, *]; done) | (simp_all [ruleP, rlNum, rlCh, rlAx, rlSg, rlOk, inI, icmp]; done) | (simp only [ruleP, rlNum, rlCh, rlAx, rlSg, rlOk, inI, icmp]; simp_all; omega) | (simp only [ruleP, rlNum, rlCh, rlAx, rlSg, rlOk, inI, icmp]; simp; omega)
    have x176 : (ruleP kind).ch = 1 := by first | (simp [ruleP, rlNum, rlCh, rlAx, rlSg, rlOk, inI, icmp, *]; done) | (simp_all [ruleP, rlNum, rlCh, rlAx, rlSg, rlOk, inI, icmp]; done) | (simp only [ruleP, rlNum, rlCh, rlAx, rlSg, rlOk, inI, icmp]; simp_all; omega) | (simp only [ruleP, rlNum, rlCh, rlAx, rlSg, rlOk, inI, icmp]; simp; omega)
    have x177 : (ruleP kind).ax = true := by first | (simp [ruleP, rlNum, rlCh, rlAx, rlSg, rlOk, inI, icmp, *]; done) | (simp_all [ruleP, rlNum, rlCh, rlAx, rlSg, rlOk, inI, icmp]; done) | (simp only [ruleP, rlNum, rlCh, rlAx, rlSg, rlOk, inI, icmp]; simp_all; omega) | (simp only [ruleP, rlNum, rlCh, rlAx, rlSg, rlOk, inI, icmp]; simp; omega)
    have x178 : (ruleP kind).sg = 0 := by first | (simp [ruleP, rlNum, rlCh, rlAx, rlSg, rlOk, inI, icmp, *]; done) | (simp_all [ruleP, rlNum, rlCh, rlAx, rlSg, rlOk, inI, icmp]; done) | (simp only [ruleP, rlNum, rlCh, rlAx, rlSg, rlOk, inI, icmp]; simp_all; omega) | (simp only [ruleP, rlNum, rlCh, rlAx, rlSg, rlOk, inI, icmp]; simp; omega)
    exact ⟨[(Iv 0), (Iv 1), (Bo true), (Iv 0)], (by first | with_reducible rfl | rw [x174] | rfl), (by first | with_reducible rfl | (show _ = _; simp only [x175, x176, x177, x178]) | rfl)⟩
  have c168' := c168
  (try simp only [icmp, Bool.and_eq_true, Bool.or_eq_true, Bool.and_eq_false_iff, Bool.or_eq_false_iff, Bool.not_eq_true', Bool.not_eq_false', decide_eq_true_eq, decide_eq_false_iff_not, beq_iff_eq, bne_iff_ne, beq_eq_false_iff_ne, bne_eq_false_iff_eq] at c168')
  refine wp_seq_k fun K179 hK179 => ?_
  refine wp_region_lit ?_
  refine q_is rfl rfl (does_icmp (p := kind) (q := 14) (.inl rfl) (ev rfl) (ev rfl)) (by dsimp only [List.set]; try rfl) ?_
  refine q_is rfl rfl (does_assign (u := (Bo (icmp .eql kind 14))) (ev rfl)) (by dsimp only [List.set]; try rfl) ?_
  refine wpList_nil (hK179 _ _ ?_)
  refine wp_cond_split (t := icmp .eql kind 14) (ev rfl) (fun c180 => ?_) (fun c180 => ?_)
  · have c180' := c180
    (try simp only [icmp, Bool.and_eq_true, Bool.or_eq_true, Bool.and_eq_false_iff, Bool.or_eq_false_iff, Bool.not_eq_true', Bool.not_eq_false', decide_eq_true_eq, decide_eq_false_iff_not, beq_iff_eq, bne_iff_ne, beq_eq_false_iff_ne, bne_eq_false_iff_eq] at c180')
    refine wp_seq_k fun K181 hK181 => ?_
    refine wp_region_lit ?_
    refine q_is rfl rfl (does_build (parts' := [(0, (Iv 1)), (1, (Iv 1)), (2, (Bo true)), (3, (Iv 2))]) (cells := #[(Iv 1), (Iv 1), (Bo true), (Iv 2)]) (evp rfl) (by kernel_rfl)) (by dsimp only [List.set]; try rfl) ?_
    refine seqn rfl rfl (does_store (n := 4) (cs := [(Iv 0), (Iv 0), (Bo false), (Iv 0)]) (u := (.agg #[(Iv 1), (Iv 1), (Bo true), (Iv 2)])) (ev rfl) (ev rfl) Try.sizeOf141 rfl hB4 (Nat.le_of_ble_eq_true rfl) rfl) ?_; rintro _ w184 ⟨rfl, W182, hB183⟩
    change Blk _ _ [(Iv 1), (Iv 1), (Bo true), (Iv 2)] at hB183
    have X185 := Below.wr X8 W182 g7
    refine q_is rfl rfl (does_assign (u := (Bo true)) (ev rfl)) (by dsimp only [List.set]; try rfl) ?_
    refine wpList_nil (hK181 _ _ ?_)
    refine wp_ret ?_
    dsimp only [Exit.then, Exit.inBlock]
    refine ret_val (v := (.tuple #[(.agg #[(Iv 1), (Iv 1), (Bo true), (Iv 2)]), (Bo true)])) (res_CT rfl (slot rfl) (run_loadAgg (cs := [(Iv 1), (Iv 1), (Bo true), (Iv 2)]) Try.isAgg141 Try.sizeOf141 (Blk.cells hB183) rfl) (slot rfl)) X185 ?_
    have x186 : (rlOk kind) = true := by first | (simp [ruleP, rlNum, rlCh, rlAx, rlSg, rlOk, inI, icmp, *]; done) | (simp_all [ruleP, rlNum, rlCh, rlAx, rlSg, rlOk, inI, icmp]; done) | (simp only [ruleP, rlNum, rlCh, rlAx, rlSg, rlOk, inI, icmp]; simp_all; omega) | (simp only [ruleP, rlNum, rlCh, rlAx, rlSg, rlOk, inI, icmp]; simp; omega)
    have x187 : (ruleP kind).num = 1 := by first | (simp [ruleP, rlNum, rlCh, rlAx, rlSg, rlOk, inI, icmp, *]; done) | (simp_all [ruleP, rlNum, rlCh, rlAx, rlSg, rlOk, inI, icmp]; done) | (simp only [ruleP, rlNum, rlCh, rlAx, rlSg, rlOk, inI, icmp]; simp_all; omega) | (simp only [ruleP, rlNum, rlCh, rlAx, rlSg, rlOk, inI, icmp]; simp; omega)
    have x188 : (ruleP kind).ch = 1 := by first | (simp [ruleP, rlNum, rlCh, rlAx, rlSg, rlOk, inI, icmp, *]; done) | (simp_all [ruleP, rlNum, rlCh, rlAx, rlSg, rlOk, inI, icmp]; done) | (simp only [ruleP, rlNum, rlCh, rlAx, rlSg, rlOk, inI, icmp]; simp_all; omega) | (simp only [ruleP, rlNum, rlCh, rlAx, rlSg, rlOk, inI, icmp]; simp; omega)
    have x189 : (ruleP kind).ax = true := by first | (simp [ruleP, rlNum, rlCh, rlAx, rlSg, rlOk, inI, icmp, *]; done) | (simp_all [ruleP, rlNum, rlCh, rlAx, rlSg, rlOk, inI, icmp]; done) | (simp only [ruleP, rlNum, rlCh, rlAx, rlSg, rlOk, inI, icmp]; simp_all; omega) | (simp only [ruleP, rlNum, rlCh, rlAx, rlSg, rlOk, inI, icmp]; simp; omega)
    have x190 : (ruleP kind).sg = 2 := by first | (simp [ruleP, rlNum, rlCh, rlAx, rlSg, rlOk, inI, icmp, *]; done) | (simp_all [ruleP, rlNum, rlCh, rlAx, rlSg, rlOk, inI, icmp]; done) | (simp only [ruleP, rlNum, rlCh, rlAx, rlSg, rlOk, inI, icmp]; simp_all; omega) | (simp only [ruleP, rlNum, rlCh, rlAx, rlSg, rlOk, inI, icmp]; simp; omega)
    exact ⟨[(Iv 1), (Iv 1), (Bo true), (Iv 2)], (by first | with_reducible rfl | rw [x186] | rfl), (by first | with_reducible rfl | (show _ = _; simp only [x187, x188, x189, x190]) | rfl)⟩
  have c180' := c180
  (try simp only [icmp, Bool.and_eq_true, Bool.or_eq_true, Bool.and_eq_false_iff, Bool.or_eq_false_iff, Bool.not_eq_true', Bool.not_eq_false', decide_eq_true_eq, decide_eq_false_iff_not, beq_iff_eq, bne_iff_ne, beq_eq_false_iff_ne, bne_eq_false_iff_eq] at c180')
  refine wp_seq_k fun K191 hK191 => ?_
  refine wp_region_lit ?_
  refine q_is rfl rfl (does_icmp (p := kind) (q := 15) (.inl rfl) (ev rfl) (ev rfl)) (by dsimp only [List.set]; try rfl) ?_
  refine q_is rfl rfl (does_assign (u := (Bo (icmp .eql kind 15))) (ev rfl)) (by dsimp only [List.set]; try rfl) ?_
  refine wpList_nil (hK191 _ _ ?_)
  refine wp_cond_split (t := icmp .eql kind 15) (ev rfl) (fun c192 => ?_) (fun c192 => ?_)
  · have c192' := c192
    (try simp only [icmp, Bool.and_eq_true, Bool.or_eq_true, Bool.and_eq_false_iff, Bool.or_eq_false_iff, Bool.not_eq_true', Bool.not_eq_false', decide_eq_true_eq, decide_eq_false_iff_not, beq_iff_eq, bne_iff_ne, beq_eq_false_iff_ne, bne_eq_false_iff_eq] at c192')
    refine wp_seq_k fun K193 hK193 => ?_
    refine wp_region_lit ?_
    refine q_is rfl rfl (does_build (parts' := [(0, (Iv 1)), (1, (Iv 1)), (2, (Bo false)), (3, (Iv 0))]) (cells := #[(Iv 1), (Iv 1), (Bo false), (Iv 0)]) (evp rfl) (by kernel_rfl)) (by dsimp only [List.set]; try rfl) ?_
    refine seqn rfl rfl (does_store (n := 4) (cs := [(Iv 0), (Iv 0), (Bo false), (Iv 0)]) (u := (.agg #[(Iv 1), (Iv 1), (Bo false), (Iv 0)])) (ev rfl) (ev rfl) Try.sizeOf141 rfl hB4 (Nat.le_of_ble_eq_true rfl) rfl) ?_; rintro _ w196 ⟨rfl, W194, hB195⟩
    change Blk _ _ [(Iv 1), (Iv 1), (Bo false), (Iv 0)] at hB195
    have X197 := Below.wr X8 W194 g7
    refine q_is rfl rfl (does_assign (u := (Bo true)) (ev rfl)) (by dsimp only [List.set]; try rfl) ?_
    refine wpList_nil (hK193 _ _ ?_)
    refine wp_ret ?_
    dsimp only [Exit.then, Exit.inBlock]
    refine ret_val (v := (.tuple #[(.agg #[(Iv 1), (Iv 1), (Bo false), (Iv 0)]), (Bo true)])) (res_CT rfl (slot rfl) (run_loadAgg (cs := [(Iv 1), (Iv 1), (Bo false), (Iv 0)]) Try.isAgg141 Try.sizeOf141 (Blk.cells hB195) rfl) (slot rfl)) X197 ?_
    have x198 : (rlOk kind) = true := by first | (simp [ruleP, rlNum, rlCh, rlAx, rlSg, rlOk, inI, icmp, *]; done) | (simp_all [ruleP, rlNum, rlCh, rlAx, rlSg, rlOk, inI, icmp]; done) | (simp only [ruleP, rlNum, rlCh, rlAx, rlSg, rlOk, inI, icmp]; simp_all; omega) | (simp only [ruleP, rlNum, rlCh, rlAx, rlSg, rlOk, inI, icmp]; simp; omega)
    have x199 : (ruleP kind).num = 1 := by first | (simp [ruleP, rlNum, rlCh, rlAx, rlSg, rlOk, inI, icmp, *]; done) | (simp_all [ruleP, rlNum, rlCh, rlAx, rlSg, rlOk, inI, icmp]; done) | (simp only [ruleP, rlNum, rlCh, rlAx, rlSg, rlOk, inI, icmp]; simp_all; omega) | (simp only [ruleP, rlNum, rlCh, rlAx, rlSg, rlOk, inI, icmp]; simp; omega)
    have x200 : (ruleP kind).ch = 1 := by first | (simp [ruleP, rlNum, rlCh, rlAx, rlSg, rlOk, inI, icmp, *]; done) | (simp_all [ruleP, rlNum, rlCh, rlAx, rlSg, rlOk, inI, icmp]; done) | (simp only [ruleP, rlNum, rlCh, rlAx, rlSg, rlOk, inI, icmp]; simp_all; omega) | (simp only [ruleP, rlNum, rlCh, rlAx, rlSg, rlOk, inI, icmp]; simp; omega)
    have x201 : (ruleP kind).ax = false := by first | (simp [ruleP, rlNum, rlCh, rlAx, rlSg, rlOk, inI, icmp, *]; done) | (simp_all [ruleP, rlNum, rlCh, rlAx, rlSg, rlOk, inI, icmp]; done) | (simp only [ruleP, rlNum, rlCh, rlAx, rlSg, rlOk, inI, icmp]; simp_all; omega) | (simp only [ruleP, rlNum, rlCh, rlAx, rlSg, rlOk, inI, icmp]; simp; omega)
    have x202 : (ruleP kind).sg = 0 := by first | (simp [ruleP, rlNum, rlCh, rlAx, rlSg, rlOk, inI, icmp, *]; done) | (simp_all [ruleP, rlNum, rlCh, rlAx, rlSg, rlOk, inI, icmp]; done) | (simp only [ruleP, rlNum, rlCh, rlAx, rlSg, rlOk, inI, icmp]; simp_all; omega) | (simp only [ruleP, rlNum, rlCh, rlAx, rlSg, rlOk, inI, icmp]; simp; omega)
    exact ⟨[(Iv 1), (Iv 1), (Bo false), (Iv 0)], (by first | with_reducible rfl | rw [x198] | rfl), (by first | with_reducible rfl | (show _ = _; simp only [x199, x200, x201, x202]) | rfl)⟩
  have c192' := c192
  (try simp only [icmp, Bool.and_eq_true, Bool.or_eq_true, Bool.and_eq_false_iff, Bool.or_eq_false_iff, Bool.not_eq_true', Bool.not_eq_false', decide_eq_true_eq, decide_eq_false_iff_not, beq_iff_eq, bne_iff_ne, beq_eq_false_iff_ne, bne_eq_false_iff_eq] at c192')
  refine wp_seq_k fun K203 hK203 => ?_
  refine wp_region_lit ?_
  refine q_is rfl rfl (does_icmp (p := kind) (q := 16) (.inl rfl) (ev rfl) (ev rfl)) (by dsimp only [List.set]; try rfl) ?_
  refine q_is rfl rfl (does_assign (u := (Bo (icmp .eql kind 16))) (ev rfl)) (by dsimp only [List.set]; try rfl) ?_
  refine wpList_nil (hK203 _ _ ?_)
  refine wp_cond_split (t := icmp .eql kind 16) (ev rfl) (fun c204 => ?_) (fun c204 => ?_)
  · have c204' := c204
    (try simp only [icmp, Bool.and_eq_true, Bool.or_eq_true, Bool.and_eq_false_iff, Bool.or_eq_false_iff, Bool.not_eq_true', Bool.not_eq_false', decide_eq_true_eq, decide_eq_false_iff_not, beq_iff_eq, bne_iff_ne, beq_eq_false_iff_ne, bne_eq_false_iff_eq] at c204')
    refine wp_seq_k fun K205 hK205 => ?_
    refine wp_region_lit ?_
    refine q_is rfl rfl (does_build (parts' := [(0, (Iv 1)), (1, (Iv 1)), (2, (Bo false)), (3, (Iv 1))]) (cells := #[(Iv 1), (Iv 1), (Bo false), (Iv 1)]) (evp rfl) (by kernel_rfl)) (by dsimp only [List.set]; try rfl) ?_
    refine seqn rfl rfl (does_store (n := 4) (cs := [(Iv 0), (Iv 0), (Bo false), (Iv 0)]) (u := (.agg #[(Iv 1), (Iv 1), (Bo false), (Iv 1)])) (ev rfl) (ev rfl) Try.sizeOf141 rfl hB4 (Nat.le_of_ble_eq_true rfl) rfl) ?_; rintro _ w208 ⟨rfl, W206, hB207⟩
    change Blk _ _ [(Iv 1), (Iv 1), (Bo false), (Iv 1)] at hB207
    have X209 := Below.wr X8 W206 g7
    refine q_is rfl rfl (does_assign (u := (Bo true)) (ev rfl)) (by dsimp only [List.set]; try rfl) ?_
    refine wpList_nil (hK205 _ _ ?_)
    refine wp_ret ?_
    dsimp only [Exit.then, Exit.inBlock]
    refine ret_val (v := (.tuple #[(.agg #[(Iv 1), (Iv 1), (Bo false), (Iv 1)]), (Bo true)])) (res_CT rfl (slot rfl) (run_loadAgg (cs := [(Iv 1), (Iv 1), (Bo false), (Iv 1)]) Try.isAgg141 Try.sizeOf141 (Blk.cells hB207) rfl) (slot rfl)) X209 ?_
    have x210 : (rlOk kind) = true := by first | (simp [ruleP, rlNum, rlCh, rlAx, rlSg, rlOk, inI, icmp, *]; done) | (simp_all [ruleP, rlNum, rlCh, rlAx, rlSg, rlOk, inI, icmp]; done) | (simp only [ruleP, rlNum, rlCh, rlAx, rlSg, rlOk, inI, icmp]; simp_all; omega) | (simp only [ruleP, rlNum, rlCh, rlAx, rlSg, rlOk, inI, icmp]; simp; omega)
    have x211 : (ruleP kind).num = 1 := by first | (simp [ruleP, rlNum, rlCh, rlAx, rlSg, rlOk, inI, icmp, *]; done) | (simp_all [ruleP, rlNum, rlCh, rlAx, rlSg, rlOk, inI, icmp]; done) | (simp only [ruleP, rlNum, rlCh, rlAx, rlSg, rlOk, inI, icmp]; simp_all; omega) | (simp only [ruleP, rlNum, rlCh, rlAx, rlSg, rlOk, inI, icmp]; simp; omega)
    have x212 : (ruleP kind).ch = 1 := by first | (simp [ruleP, rlNum, rlCh, rlAx, rlSg, rlOk, inI, icmp, *]; done) | (simp_all [ruleP, rlNum, rlCh, rlAx, rlSg, rlOk, inI, icmp]; done) | (simp only [ruleP, rlNum, rlCh, rlAx, rlSg, rlOk, inI, icmp]; simp_all; omega) | (simp only [ruleP, rlNum, rlCh, rlAx, rlSg, rlOk, inI, icmp]; simp; omega)
    have x213 : (ruleP kind).ax = false := by first | (simp [ruleP, rlNum, rlCh, rlAx, rlSg, rlOk, inI, icmp, *]; done) | (simp_all [ruleP, rlNum, rlCh, rlAx, rlSg, rlOk, inI, icmp]; done) | (simp only [ruleP, rlNum, rlCh, rlAx, rlSg, rlOk, inI, icmp]; simp_all; omega) | (simp only [ruleP, rlNum, rlCh, rlAx, rlSg, rlOk, inI, icmp]; simp; omega)
    have x214 : (ruleP kind).sg = 1 := by first | (simp [ruleP, rlNum, rlCh, rlAx, rlSg, rlOk, inI, icmp, *]; done) | (simp_all [ruleP, rlNum, rlCh, rlAx, rlSg, rlOk, inI, icmp]; done) | (simp only [ruleP, rlNum, rlCh, rlAx, rlSg, rlOk, inI, icmp]; simp_all; omega) | (simp only [ruleP, rlNum, rlCh, rlAx, rlSg, rlOk, inI, icmp]; simp; omega)
    exact ⟨[(Iv 1), (Iv 1), (Bo false), (Iv 1)], (by first | with_reducible rfl | rw [x210] | rfl), (by first | with_reducible rfl | (show _ = _; simp only [x211, x212, x213, x214]) | rfl)⟩
  have c204' := c204
  (try simp only [icmp, Bool.and_eq_true, Bool.or_eq_true, Bool.and_eq_false_iff, Bool.or_eq_false_iff, Bool.not_eq_true', Bool.not_eq_false', decide_eq_true_eq, decide_eq_false_iff_not, beq_iff_eq, bne_iff_ne, beq_eq_false_iff_ne, bne_eq_false_iff_eq] at c204')
  refine wp_skip (hK9 _ _ ?_)
  refine wp_seq_k fun K215 hK215 => ?_
  refine wp_region_lit ?_
  refine q_is rfl rfl (does_build (parts' := []) (cells := #[(Iv 0), (Iv 0), (Bo false), (Iv 0)]) (evp rfl) (by kernel_rfl)) (by dsimp only [List.set]; try rfl) ?_
  refine seqn rfl rfl (does_store (n := 4) (cs := [(Iv 0), (Iv 0), (Bo false), (Iv 0)]) (u := (.agg #[(Iv 0), (Iv 0), (Bo false), (Iv 0)])) (ev rfl) (ev rfl) Try.sizeOf141 rfl hB4 (Nat.le_of_ble_eq_true rfl) rfl) ?_; rintro _ w218 ⟨rfl, W216, hB217⟩
  change Blk _ _ [(Iv 0), (Iv 0), (Bo false), (Iv 0)] at hB217
  have X219 := Below.wr X8 W216 g7
  refine q_is rfl rfl (does_assign (u := (Bo false)) (ev rfl)) (by dsimp only [List.set]; try rfl) ?_
  refine wpList_nil (hK215 _ _ ?_)
  refine wp_ret ?_
  refine ret_val (v := (.tuple #[(.agg #[(Iv 0), (Iv 0), (Bo false), (Iv 0)]), (Bo false)])) (res_CT rfl (slot rfl) (run_loadAgg (cs := [(Iv 0), (Iv 0), (Bo false), (Iv 0)]) Try.isAgg141 Try.sizeOf141 (Blk.cells hB217) rfl) (slot rfl)) X219 ?_
  have x220 : (rlOk kind) = false := by first | (simp [ruleP, rlNum, rlCh, rlAx, rlSg, rlOk, inI, icmp, *]; done) | (simp_all [ruleP, rlNum, rlCh, rlAx, rlSg, rlOk, inI, icmp]; done) | (simp only [ruleP, rlNum, rlCh, rlAx, rlSg, rlOk, inI, icmp]; simp_all; omega) | (simp only [ruleP, rlNum, rlCh, rlAx, rlSg, rlOk, inI, icmp]; simp; omega)
  have x221 : (ruleP kind).num = 0 := by first | (simp [ruleP, rlNum, rlCh, rlAx, rlSg, rlOk, inI, icmp, *]; done) | (simp_all [ruleP, rlNum, rlCh, rlAx, rlSg, rlOk, inI, icmp]; done) | (simp only [ruleP, rlNum, rlCh, rlAx, rlSg, rlOk, inI, icmp]; simp_all; omega) | (simp only [ruleP, rlNum, rlCh, rlAx, rlSg, rlOk, inI, icmp]; simp; omega)
  have x222 : (ruleP kind).ch = 0 := by first | (simp [ruleP, rlNum, rlCh, rlAx, rlSg, rlOk, inI, icmp, *]; done) | (simp_all [ruleP, rlNum, rlCh, rlAx, rlSg, rlOk, inI, icmp]; done) | (simp only [ruleP, rlNum, rlCh, rlAx, rlSg, rlOk, inI, icmp]; simp_all; omega) | (simp only [ruleP, rlNum, rlCh, rlAx, rlSg, rlOk, inI, icmp]; simp; omega)
  have x223 : (ruleP kind).ax = false := by first | (simp [ruleP, rlNum, rlCh, rlAx, rlSg, rlOk, inI, icmp, *]; done) | (simp_all [ruleP, rlNum, rlCh, rlAx, rlSg, rlOk, inI, icmp]; done) | (simp only [ruleP, rlNum, rlCh, rlAx, rlSg, rlOk, inI, icmp]; simp_all; omega) | (simp only [ruleP, rlNum, rlCh, rlAx, rlSg, rlOk, inI, icmp]; simp; omega)
  have x224 : (ruleP kind).sg = 0 := by first | (simp [ruleP, rlNum, rlCh, rlAx, rlSg, rlOk, inI, icmp, *]; done) | (simp_all [ruleP, rlNum, rlCh, rlAx, rlSg, rlOk, inI, icmp]; done) | (simp only [ruleP, rlNum, rlCh, rlAx, rlSg, rlOk, inI, icmp]; simp_all; omega) | (simp only [ruleP, rlNum, rlCh, rlAx, rlSg, rlOk, inI, icmp]; simp; omega)
  exact ⟨[(Iv 0), (Iv 0), (Bo false), (Iv 0)], (by first | with_reducible rfl | rw [x220] | rfl), (by first | with_reducible rfl | (show _ = _; simp only [x221, x222, x223, x224]) | rfl)⟩

/- impl.numbersOk$1 -/
theorem c_impl_numbersOk_1 (x : Nat) (r_b : Nat) (r_o : Nat) (r : List Value) (A_r : RuleT) (w : World) (hc_r : Cells w r_b r_o r) (hv_r : RRuleT w A_r r) : Gives Try.prog 87 #[(Fl x), (Pt r_b r_o)] w (fun v w' => v = (Bo ((A_r.sg == 1 && lssF (cf .f32 x)) || (A_r.sg == 2 && leqF (cf .f32 x))))) := by
  obtain rfl := hv_r
  refine enter [(Fl x), (Pt r_b r_o), Ud, Ud, Ud, Ud, Ud, Ud, Ud, Ud, Ud, Ud, Ud, Ud, Ud, Ud, Ud, Ud, Ud, Ud] Try.func87 rfl Try.ntmps87 rfl ?_
  refine wp_seq_k fun K1 hK1 => ?_
  refine wp_region_lit ?_
  refine q_is (l' := [(Fl x), (Pt r_b r_o), Ud, (Bo false), Ud, Ud, Ud, Ud, Ud, Ud, Ud, Ud, Ud, Ud, Ud, Ud, Ud, Ud, Ud, Ud]) rfl rfl (does_assign (u := (Bo false)) (ev rfl)) rfl ?_
  refine wpList_nil (hK1 _ _ ?_)
  refine wp_seq_k fun K2 hK2 => ?_
  obtain ⟨β1, hβ1⟩ : ∃ b : Bool, b = (fcmp .lss (ford .f32 (cf .f32 x) (cf .f32 0))) := ⟨_, rfl⟩
  obtain ⟨β2, hβ2⟩ : ∃ b : Bool, b = ((icmp .eql A_r.sg 1) && β1) := ⟨_, rfl⟩
  obtain ⟨β3, hβ3⟩ : ∃ b : Bool, b = (fcmp .leq (ford .f32 (cf .f32 x) (cf .f32 0))) := ⟨_, rfl⟩
  obtain ⟨β4, hβ4⟩ : ∃ b : Bool, b = ((icmp .eql A_r.sg 2) && β3) := ⟨_, rfl⟩
  refine region_text (
    [Fact.pure [] (fun v => v = (Pt r_b (r_o + 3))),
    Fact.pure [4] (fun v => v = (Iv A_r.sg)),
    Fact.pure [5] (fun v => v = (Bo (icmp .eql A_r.sg 1))),
    Fact.pure [6] (fun v => v = (Bo (icmp .eql A_r.sg 1))),
    Fact.pure [7] (fun v => (icmp .eql A_r.sg 1) = true → v = (Fl x)),
    Fact.pure [8, 7] (fun v => (icmp .eql A_r.sg 1) = true → v = (Bo β1)),
    Fact.pure [7, 9] (fun v => v = (Bo β2)),
    Fact.pure [10] (fun v => v = (Bo β2)),
    Fact.pure [11] (fun v => β2 = false → v = (Pt r_b (r_o + 3))),
    Fact.pure [12, 11] (fun v => β2 = false → v = (Iv A_r.sg)),
    Fact.pure [13, 11] (fun v => β2 = false → v = (Bo (icmp .eql A_r.sg 2))),
    Fact.pure [14, 11] (fun v => (β2 = false → v = (Bo (icmp .eql A_r.sg 2))) ∧ (¬ (β2 = false) → v = undef)),
    Fact.pure [15] (fun v => β2 = false → (icmp .eql A_r.sg 2) = true → v = (Fl x)),
    Fact.pure [16, 15] (fun v => β2 = false → (icmp .eql A_r.sg 2) = true → v = (Bo β3)),
    Fact.pure [15, 17, 11] (fun v => β2 = false → v = (Bo β4)),
    Fact.pure [11, 18] (fun v => v = (Bo (β2 || β4)))]) (by simp [Fact.pure, Fact.mem]) ?_
  refine RW_d (fun v3 => [(Fl x), (Pt r_b r_o), Ud, (Bo false), v3, Ud, Ud, Ud, Ud, Ud, Ud, Ud, Ud, Ud, Ud, Ud, Ud, Ud, Ud, Ud]) rfl (fun _ => rfl) (fun u hu hF => ?_) (fun v3 => ?_)
  · clear hF
    refine doesG_un rfl ?_
    refine (does_fieldAddr (ev rfl) fa141_3).mono ?_; rintro _ _ ⟨rfl, rfl⟩
    exact ⟨rfl, Ext.refl _⟩
  refine RW_d (fun v4 => [(Fl x), (Pt r_b r_o), Ud, (Bo false), v3, v4, Ud, Ud, Ud, Ud, Ud, Ud, Ud, Ud, Ud, Ud, Ud, Ud, Ud, Ud]) rfl (fun _ => rfl) (fun u hu hF => ?_) (fun v4 => ?_)
  · have h4_ : v3 = (Pt r_b (r_o + 3)) := hF.1
    clear hF
    refine doesG_un rfl ?_
    obtain rfl := h4_
    refine (does_load (u := (Iv A_r.sg)) (ev rfl) Try.isAgg3 (Cells.at (hc_r.ext hu) 3 rfl)).mono ?_; rintro _ _ ⟨rfl, rfl⟩
    exact ⟨rfl, Ext.refl _⟩
  refine RW_d (fun v5 => [(Fl x), (Pt r_b r_o), Ud, (Bo false), v3, v4, v5, Ud, Ud, Ud, Ud, Ud, Ud, Ud, Ud, Ud, Ud, Ud, Ud, Ud]) rfl (fun _ => rfl) (fun u hu hF => ?_) (fun v5 => ?_)
  · have h5_ : v4 = (Iv A_r.sg) := hF.1
    clear hF
    refine doesG_un rfl ?_
    obtain rfl := h5_
    refine (does_icmp (p := A_r.sg) (q := 1) (.inl rfl) (ev rfl) (ev rfl)).mono ?_; rintro _ _ ⟨rfl, rfl⟩
    exact ⟨rfl, Ext.refl _⟩
  refine RW_d (fun v6 => [(Fl x), (Pt r_b r_o), Ud, (Bo false), v3, v4, v5, v6, Ud, Ud, Ud, Ud, Ud, Ud, Ud, Ud, Ud, Ud, Ud, Ud]) rfl (fun _ => rfl) (fun u hu hF => ?_) (fun v6 => ?_)
  · have h6_ : v5 = (Bo (icmp .eql A_r.sg 1)) := hF.1
    clear hF
    refine doesG_un rfl ?_
    obtain rfl := h6_
    refine (does_move (u := (Bo (icmp .eql A_r.sg 1))) (ev rfl)).mono ?_; rintro _ _ ⟨rfl, rfl⟩
    exact ⟨rfl, Ext.refl _⟩
  refine RW_d (fun v7 => [(Fl x), (Pt r_b r_o), Ud, (Bo false), v3, v4, v5, v6, v7, Ud, Ud, Ud, Ud, Ud, Ud, Ud, Ud, Ud, Ud, Ud]) rfl (fun _ => rfl) (fun u hu hF => ?_) (fun v7 => ?_)
  · have h7_ : v6 = (Bo (icmp .eql A_r.sg 1)) := hF.1
    clear hF
    obtain rfl := h7_
    refine doesG_g (b := (icmp .eql A_r.sg 1)) rfl (yld rfl rfl) (fun hg1 => ?_) (fun hc => ⟨fun hg1 => absurd hg1 hc, Ext.refl _⟩)
    refine (does_move (u := (Fl x)) (ev rfl)).mono ?_; rintro _ _ ⟨rfl, rfl⟩
    exact ⟨fun _ => rfl, Ext.refl _⟩
  refine RW_d (fun v8 => [(Fl x), (Pt r_b r_o), Ud, (Bo false), v3, v4, v5, v6, v7, v8, Ud, Ud, Ud, Ud, Ud, Ud, Ud, Ud, Ud, Ud]) rfl (fun _ => rfl) (fun u hu hF => ?_) (fun v8 => ?_)
  · have h8_ : (icmp .eql A_r.sg 1) = true → v7 = (Fl x) := hF.1
    have h7_ : v6 = (Bo (icmp .eql A_r.sg 1)) := hF.2.1
    clear hF
    obtain rfl := h7_
    refine doesG_g (b := (icmp .eql A_r.sg 1)) rfl (yld rfl rfl) (fun hg1 => ?_) (fun hc => ⟨fun hg1 => absurd hg1 hc, Ext.refl _⟩)
    obtain rfl := h8_ hg1
    refine (does_fcmp (.inr (.inr (.inl rfl))) (ev rfl) (ev rfl)).mono ?_; rintro _ _ ⟨rfl, rfl⟩
    exact ⟨fun _ => (by first | rfl | (show _ = _; simp only [hβ1]; done) | (show _ = _; simp only [hβ1]; rfl)), Ext.refl _⟩
  refine RW_d (fun v9 => [(Fl x), (Pt r_b r_o), Ud, (Bo false), v3, v4, v5, v6, v7, v8, v9, Ud, Ud, Ud, Ud, Ud, Ud, Ud, Ud, Ud]) rfl (fun _ => rfl) (fun u hu hF => ?_) (fun v9 => ?_)
  · have h7_ : v6 = (Bo (icmp .eql A_r.sg 1)) := hF.1
    have h9_ : (icmp .eql A_r.sg 1) = true → v8 = (Bo β1) := hF.2.1
    clear hF
    refine doesG_un rfl ?_
    skip
    obtain rfl := h7_
    refine (does_pick (b := (icmp .eql A_r.sg 1)) (u := v8) (v := (Bo false)) (ev rfl) (ev rfl) (ev rfl)).mono ?_; rintro _ _ ⟨rfl, rfl⟩; refine ⟨?_, Ext.refl _⟩; rw [hβ2]; skip
    cases hbb : (icmp .eql A_r.sg 1)
    all_goals first | (show _ = _; simp only [↓reduceIte, Bool.true_and, Bool.false_and, Bool.true_or, Bool.false_or, Bool.false_eq_true]; done) | (have e_ := h9_ hbb; subst e_; show _ = _; simp only [↓reduceIte, Bool.true_and, Bool.false_and, Bool.true_or, Bool.false_or, Bool.false_eq_true]; done) | rfl | (have e_ := h9_ hbb; subst e_; rfl) | (simp [hbb] at h9_ ⊢; first | done | rfl | (subst h9_; rfl) | simp_all) | (simp [hbb] at h9_ ⊢; done)
  refine RW_d (fun v10 => [(Fl x), (Pt r_b r_o), Ud, (Bo false), v3, v4, v5, v6, v7, v8, v9, v10, Ud, Ud, Ud, Ud, Ud, Ud, Ud, Ud]) rfl (fun _ => rfl) (fun u hu hF => ?_) (fun v10 => ?_)
  · have h10_ : v9 = (Bo β2) := hF.1
    clear hF
    refine doesG_un rfl ?_
    obtain rfl := h10_
    refine (does_move (u := (Bo β2)) (ev rfl)).mono ?_; rintro _ _ ⟨rfl, rfl⟩
    exact ⟨rfl, Ext.refl _⟩
  refine RW_d (fun v11 => [(Fl x), (Pt r_b r_o), Ud, (Bo false), v3, v4, v5, v6, v7, v8, v9, v10, v11, Ud, Ud, Ud, Ud, Ud, Ud, Ud]) rfl (fun _ => rfl) (fun u hu hF => ?_) (fun v11 => ?_)
  · have h11_ : v10 = (Bo β2) := hF.1
    clear hF
    obtain rfl := h11_
    refine doesG_g (b := β2) rfl (yld rfl rfl) (fun hg1 => ?_) (fun hc => ⟨fun hg1 => absurd hg1 hc, Ext.refl _⟩)
    refine (does_fieldAddr (ev rfl) fa141_3).mono ?_; rintro _ _ ⟨rfl, rfl⟩
    exact ⟨fun _ => rfl, Ext.refl _⟩
  refine RW_d (fun v12 => [(Fl x), (Pt r_b r_o), Ud, (Bo false), v3, v4, v5, v6, v7, v8, v9, v10, v11, v12, Ud, Ud, Ud, Ud, Ud, Ud]) rfl (fun _ => rfl) (fun u hu hF => ?_) (fun v12 => ?_)
  · have h12_ : β2 = false → v11 = (Pt r_b (r_o + 3)) := hF.1
    have h11_ : v10 = (Bo β2) := hF.2.1
    clear hF
    obtain rfl := h11_
    refine doesG_g (b := β2) rfl (yld rfl rfl) (fun hg1 => ?_) (fun hc => ⟨fun hg1 => absurd hg1 hc, Ext.refl _⟩)
    obtain rfl := h12_ hg1
    refine (does_load (u := (Iv A_r.sg)) (ev rfl) Try.isAgg3 (Cells.at (hc_r.ext hu) 3 rfl)).mono ?_; rintro _ _ ⟨rfl, rfl⟩
    exact ⟨fun _ => rfl, Ext.refl _⟩
  refine RW_d (fun v13 => [(Fl x), (Pt r_b r_o), Ud, (Bo false), v3, v4, v5, v6, v7, v8, v9, v10, v11, v12, v13, Ud, Ud, Ud, Ud, Ud]) rfl (fun _ => rfl) (fun u hu hF => ?_) (fun v13 => ?_)
  · have h13_ : β2 = false → v12 = (Iv A_r.sg) := hF.1
    have h11_ : v10 = (Bo β2) := hF.2.1
    clear hF
    obtain rfl := h11_
    refine doesG_g (b := β2) rfl (yld rfl rfl) (fun hg1 => ?_) (fun hc => ⟨fun hg1 => absurd hg1 hc, Ext.refl _⟩)
    obtain rfl := h13_ hg1
    refine (does_icmp (p := A_r.sg) (q := 2) (.inl rfl) (ev rfl) (ev rfl)).mono ?_; rintro _ _ ⟨rfl, rfl⟩
    exact ⟨fun _ => rfl, Ext.refl _⟩
  refine RW_d (fun v14 => [(Fl x), (Pt r_b r_o), Ud, (Bo false), v3, v4, v5, v6, v7, v8, v9, v10, v11, v12, v13, v14, Ud, Ud, Ud, Ud]) rfl (fun _ => rfl) (fun u hu hF => ?_) (fun v14 => ?_)
  · have h14_ : β2 = false → v13 = (Bo (icmp .eql A_r.sg 2)) := hF.1
    have h11_ : v10 = (Bo β2) := hF.2.1
    clear hF
    obtain rfl := h11_
    refine doesG_g (b := β2) rfl (yld rfl rfl) (fun hg1 => ?_) (fun hc => ⟨⟨fun hg1 => absurd hg1 hc, fun _ => rfl⟩, Ext.refl _⟩)
    obtain rfl := h14_ hg1
    refine (does_move (u := (Bo (icmp .eql A_r.sg 2))) (ev rfl)).mono ?_; rintro _ _ ⟨rfl, rfl⟩
    exact ⟨⟨fun _ => rfl, fun hn => absurd hg1 hn⟩, Ext.refl _⟩
  refine RW_d (fun v15 => [(Fl x), (Pt r_b r_o), Ud, (Bo false), v3, v4, v5, v6, v7, v8, v9, v10, v11, v12, v13, v14, v15, Ud, Ud, Ud]) rfl (fun _ => rfl) (fun u hu hF => ?_) (fun v15 => ?_)
  · have h15_ : (β2 = false → v14 = (Bo (icmp .eql A_r.sg 2))) ∧ (¬ (β2 = false) → v14 = undef) := hF.1; have h15u := h15_.2; replace h15_ := h15_.1
    clear hF
    refine doesG_gg (b := (icmp .eql A_r.sg 2)) (c := β2 = false) rfl (fun hc => ?_) (fun hc => ?_) (fun hc hg2 => ?_) (fun hc => ⟨fun hg1 hg2 => absurd ⟨hg1, hg2⟩ hc, Ext.refl _⟩)
    · have hg1 := hc; obtain rfl := h15_ hg1; exact yld rfl rfl
    · obtain rfl := h15u hc; exact yldn rfl rfl
    have hg1 := hc
    obtain rfl := h15_ hg1
    refine (does_move (u := (Fl x)) (ev rfl)).mono ?_; rintro _ _ ⟨rfl, rfl⟩
    exact ⟨fun _ _ => rfl, Ext.refl _⟩
  refine RW_d (fun v16 => [(Fl x), (Pt r_b r_o), Ud, (Bo false), v3, v4, v5, v6, v7, v8, v9, v10, v11, v12, v13, v14, v15, v16, Ud, Ud]) rfl (fun _ => rfl) (fun u hu hF => ?_) (fun v16 => ?_)
  · have h16_ : β2 = false → (icmp .eql A_r.sg 2) = true → v15 = (Fl x) := hF.1
    have h15_ : (β2 = false → v14 = (Bo (icmp .eql A_r.sg 2))) ∧ (¬ (β2 = false) → v14 = undef) := hF.2.1; have h15u := h15_.2; replace h15_ := h15_.1
    clear hF
    refine doesG_gg (b := (icmp .eql A_r.sg 2)) (c := β2 = false) rfl (fun hc => ?_) (fun hc => ?_) (fun hc hg2 => ?_) (fun hc => ⟨fun hg1 hg2 => absurd ⟨hg1, hg2⟩ hc, Ext.refl _⟩)
    · have hg1 := hc; obtain rfl := h15_ hg1; exact yld rfl rfl
    · obtain rfl := h15u hc; exact yldn rfl rfl
    have hg1 := hc
    obtain rfl := h15_ hg1
    obtain rfl := h16_ hg1 hg2
    refine (does_fcmp (.inr (.inr (.inr (.inl rfl)))) (ev rfl) (ev rfl)).mono ?_; rintro _ _ ⟨rfl, rfl⟩
    exact ⟨fun _ _ => (by first | rfl | (show _ = _; simp only [hβ3]; done) | (show _ = _; simp only [hβ3]; rfl)), Ext.refl _⟩
  refine RW_d (fun v17 => [(Fl x), (Pt r_b r_o), Ud, (Bo false), v3, v4, v5, v6, v7, v8, v9, v10, v11, v12, v13, v14, v15, v16, v17, Ud]) rfl (fun _ => rfl) (fun u hu hF => ?_) (fun v17 => ?_)
  · have h15_ : (β2 = false → v14 = (Bo (icmp .eql A_r.sg 2))) ∧ (¬ (β2 = false) → v14 = undef) := hF.1; have h15u := h15_.2; replace h15_ := h15_.1
    have h17_ : β2 = false → (icmp .eql A_r.sg 2) = true → v16 = (Bo β3) := hF.2.1
    have h11_ : v10 = (Bo β2) := hF.2.2.1
    clear hF
    obtain rfl := h11_
    refine doesG_g (b := β2) rfl (yld rfl rfl) (fun hg1 => ?_) (fun hc => ⟨fun hg1 => absurd hg1 hc, Ext.refl _⟩)
    skip
    obtain rfl := h15_ hg1
    replace h17_ := h17_ hg1
    refine (does_pick (b := (icmp .eql A_r.sg 2)) (u := v16) (v := (Bo false)) (ev rfl) (ev rfl) (ev rfl)).mono ?_; rintro _ _ ⟨rfl, rfl⟩; refine ⟨fun _ => ?_, Ext.refl _⟩; rw [hβ4]; skip
    cases hbb : (icmp .eql A_r.sg 2)
    all_goals first | (show _ = _; simp only [↓reduceIte, Bool.true_and, Bool.false_and, Bool.true_or, Bool.false_or, Bool.false_eq_true]; done) | (have e_ := h17_ hbb; subst e_; show _ = _; simp only [↓reduceIte, Bool.true_and, Bool.false_and, Bool.true_or, Bool.false_or, Bool.false_eq_true]; done) | rfl | (have e_ := h17_ hbb; subst e_; rfl) | (simp [hbb] at h17_ ⊢; first | done | rfl | (subst h17_; rfl) | simp_all) | (simp [hbb] at h17_ ⊢; done)
  refine RW_d (fun v18 => [(Fl x), (Pt r_b r_o), Ud, (Bo false), v3, v4, v5, v6, v7, v8, v9, v10, v11, v12, v13, v14, v15, v16, v17, v18]) rfl (fun _ => rfl) (fun u hu hF => ?_) (fun v18 => ?_)
  · have h11_ : v10 = (Bo β2) := hF.1
    have h18_ : β2 = false → v17 = (Bo β4) := hF.2.1
    clear hF
    refine doesG_un rfl ?_
    skip
    obtain rfl := h11_
    refine (does_pick (b := β2) (u := (Bo true)) (v := v17) (ev rfl) (ev rfl) (ev rfl)).mono ?_; rintro _ _ ⟨rfl, rfl⟩; refine ⟨?_, Ext.refl _⟩; skip
    cases hbb : β2
    all_goals first | (show _ = _; simp only [↓reduceIte, Bool.true_and, Bool.false_and, Bool.true_or, Bool.false_or, Bool.false_eq_true]; done) | (have e_ := h18_ hbb; subst e_; show _ = _; simp only [↓reduceIte, Bool.true_and, Bool.false_and, Bool.true_or, Bool.false_or, Bool.false_eq_true]; done) | rfl | (have e_ := h18_ hbb; subst e_; rfl) | (simp [hbb] at h18_ ⊢; first | done | rfl | (subst h18_; rfl) | simp_all) | (simp [hbb] at h18_ ⊢; done)
  refine RW_fin ?_; intro w19 E20 hP21
  obtain ⟨⟨⟨⟨⟨⟨⟨⟨⟨⟨⟨⟨⟨⟨⟨⟨-, -⟩, -⟩, -⟩, -⟩, -⟩, -⟩, -⟩, -⟩, -⟩, -⟩, -⟩, -⟩, -⟩, -⟩, -⟩, q22⟩ := hP21
  have X23 := Ext.gr (Ext.refl w) E20
  have q22 : v18 = (Bo (β2 || β4)) := q22
  obtain rfl := q22
  show wpList _ _ _ _ (fr [(Fl x), (Pt r_b r_o), Ud, (Bo false), v3, v4, v5, v6, v7, v8, v9, v10, v11, v12, v13, v14, v15, v16, v17, (Bo (β2 || β4))]) _
  refine q_is (l' := [(Fl x), (Pt r_b r_o), Ud, (Bo (β2 || β4)), v3, v4, v5, v6, v7, v8, v9, v10, v11, v12, v13, v14, v15, v16, v17, (Bo (β2 || β4))]) rfl rfl (does_assign (u := (Bo (β2 || β4))) (ev rfl)) rfl ?_
  refine wpList_nil (hK2 _ _ ?_)
  refine wp_ret ?_
  refine ret_val (v := (Bo (β2 || β4))) (res_T rfl (slot rfl)) X23 ?_
  have x24 : ((A_r.sg == 1 && lssF (cf .f32 x)) || (A_r.sg == 2 && leqF (cf .f32 x))) = (β2 || β4) := by first | with_reducible rfl | (simp only [lssF, leqF, icmp, hβ1, hβ2, hβ3, hβ4]; done) | (simp [lssF, leqF, icmp, hβ1, hβ2, hβ3, hβ4]; done) | rfl
  exact (by first | with_reducible rfl | rw [x24] | rfl)

/- impl.numbersOk -/
theorem c_impl_numbersOk (kind : Int) (nums : Value) (L_nums : List Nat) (w : World) (hv_nums : Sl RF 1 w nums L_nums) : Gives Try.prog 56 #[(Iv kind), nums] w (fun v w' => v = (Bo (rlOk kind && nodeNums kind L_nums))) := by
  have hlen_nums := Sl.len hv_nums; obtain ⟨p_nums, q_nums, rfl⟩ := Sl.shape hv_nums
  refine enter [(Iv kind), (.slice p_nums L_nums.length q_nums), Ud, Ud, Ud, Ud, Ud, Ud, Ud, Ud, Ud, Ud, Ud, Ud, Ud, Ud, Ud, Ud, Ud, Ud, Ud, Ud, Ud, Ud, Ud, Ud, Ud, Ud, Ud, Ud] Try.func56 rfl Try.ntmps56 rfl ?_
  refine wp_seq_k fun K1 hK1 => ?_
  refine wp_region_lit ?_
  refine q_is rfl rfl (does_assign (u := (Bo false)) (ev rfl)) (by dsimp only [List.set]; try rfl) ?_
  refine wpList_nil (hK1 _ _ ?_)
  refine wp_seq_k fun K2 hK2 => ?_
  refine wp_region_lit ?_
  refine q_is rfl rfl (does_move (u := (Iv kind)) (ev rfl)) (by dsimp only [List.set]; try rfl) ?_
  refine seqd rfl rfl (does_call (args := #[(Iv kind)]) cal85 (evs rfl) (c_impl_ruleOf kind _)) ?_; rintro _ w4 ⟨E3, ⟨_, rfl, rfl⟩⟩
  have X5 := Ext.gr (Ext.refl w) E3
  show wpList _ _ _ _ (fr [_, _, _, _, _, _, _, _, _, _, _, _, _, _, _, _, _, _, _, _, _, _, _, _, _, _, _, _, _, _]) _
  refine q_is rfl rfl (does_move (u := (.tuple #[(.agg #[(Iv ((ruleP kind).num)), (Iv ((ruleP kind).ch)), (Bo ((ruleP kind).ax)), (Iv ((ruleP kind).sg))]), (Bo (rlOk kind))])) (ev rfl)) (by dsimp only [List.set]; try rfl) ?_
  refine q_is rfl rfl (does_extract (vs := #[(.agg #[(Iv ((ruleP kind).num)), (Iv ((ruleP kind).ch)), (Bo ((ruleP kind).ax)), (Iv ((ruleP kind).sg))]), (Bo (rlOk kind))]) (u := (.agg #[(Iv ((ruleP kind).num)), (Iv ((ruleP kind).ch)), (Bo ((ruleP kind).ax)), (Iv ((ruleP kind).sg))])) (ev rfl) rfl) (by dsimp only [List.set]; try rfl) ?_
  refine q_is rfl rfl (does_extract (vs := #[(.agg #[(Iv ((ruleP kind).num)), (Iv ((ruleP kind).ch)), (Bo ((ruleP kind).ax)), (Iv ((ruleP kind).sg))]), (Bo (rlOk kind))]) (u := (Bo (rlOk kind))) (ev rfl) rfl) (by dsimp only [List.set]; try rfl) ?_
  refine seqd rfl rfl (does_alloc z141) ?_; rintro _ w10 ⟨b6, rfl, hb7, hB8, E9⟩
  have g11 : w.heap.size ≤ b6 := Nat.le_trans (Below.size X5) hb7
  change Blk _ _ [(Iv 0), (Iv 0), (Bo false), (Iv 0)] at hB8
  have X12 := Ext.gr X5 E9
  show wpList _ _ _ _ (fr [_, _, _, _, _, _, _, _, _, _, _, _, _, _, _, _, _, _, _, _, _, _, _, _, _, _, _, _, _, _]) _
  refine seqn rfl rfl (does_store (n := 4) (cs := [(Iv 0), (Iv 0), (Bo false), (Iv 0)]) (u := (.agg #[(Iv ((ruleP kind).num)), (Iv ((ruleP kind).ch)), (Bo ((ruleP kind).ax)), (Iv ((ruleP kind).sg))])) (ev rfl) (ev rfl) Try.sizeOf141 rfl hB8 (Nat.le_of_ble_eq_true rfl) rfl) ?_; rintro _ w15 ⟨rfl, W13, hB14⟩
  change Blk _ _ [(Iv ((ruleP kind).num)), (Iv ((ruleP kind).ch)), (Bo ((ruleP kind).ax)), (Iv ((ruleP kind).sg))] at hB14
  have X16 := Below.wr X12 W13 g11
  refine q_is rfl rfl (does_assign (u := (Bo (rlOk kind))) (ev rfl)) (by dsimp only [List.set]; try rfl) ?_
  refine wpList_nil (hK2 _ _ ?_)
  refine wp_seq_k fun K17 hK17 => ?_
  refine wp_seq_k fun K18 hK18 => ?_
  obtain ⟨β1, hβ1⟩ : ∃ b : Bool, b = (icmp .neq (L_nums.length : Int) ((ruleP kind).num)) := ⟨_, rfl⟩
  obtain ⟨β2, hβ2⟩ : ∃ b : Bool, b = (!L_nums.any (fun x => !finF x)) := ⟨_, rfl⟩
  obtain ⟨β3, hβ3⟩ : ∃ b : Bool, b = (((!(rlOk kind)) || β1) || (!β2)) := ⟨_, rfl⟩
  refine region_text (
    [Fact.pure [] (fun v => v = (Bo (rlOk kind))),
    Fact.pure [12] (fun v => v = (Bo (!(rlOk kind)))),
    Fact.pure [13] (fun v => v = (Bo (!(rlOk kind)))),
    Fact.pure [14] (fun v => (!(rlOk kind)) = false → v = (.slice p_nums L_nums.length q_nums)),
    Fact.pure [15, 14] (fun v => (!(rlOk kind)) = false → v = (Iv (L_nums.length : Int))),
    Fact.pure [14] (fun v => (!(rlOk kind)) = false → v = (Pt b6 0)),
    Fact.pure [17, 14] (fun v => (!(rlOk kind)) = false → v = (Iv ((ruleP kind).num))),
    Fact.pure [16, 18, 14] (fun v => (!(rlOk kind)) = false → v = (Bo β1)),
    Fact.pure [14, 19] (fun v => v = (Bo ((!(rlOk kind)) || β1))),
    Fact.pure [20] (fun v => v = (Bo ((!(rlOk kind)) || β1))),
    Fact.pure [21] (fun v => ((!(rlOk kind)) || β1) = false → v = (.slice p_nums L_nums.length q_nums)),
    Fact.pure [22, 21] (fun v => ((!(rlOk kind)) || β1) = false → v = (Bo β2)),
    Fact.pure [23, 21] (fun v => ((!(rlOk kind)) || β1) = false → v = (Bo (!β2))),
    Fact.pure [21, 24] (fun v => v = (Bo β3))]) (by simp [Fact.pure, Fact.mem]) ?_
  refine RW_d _ rfl (fun v => by dsimp only [List.set]; try rfl) (fun u hu hF => ?_) (fun v19 => ?_)
  · clear hF
    refine doesG_un rfl ?_
    refine (does_move (u := (Bo (rlOk kind))) (ev rfl)).mono ?_; rintro _ _ ⟨rfl, rfl⟩
    exact ⟨rfl, Ext.refl _⟩
  refine RW_d _ rfl (fun v => by dsimp only [List.set]; try rfl) (fun u hu hF => ?_) (fun v20 => ?_)
  · have h12_ : v19 = (Bo (rlOk kind)) := hF.1
    clear hF
    refine doesG_un rfl ?_
    obtain rfl := h12_
    refine (does_not (ev rfl)).mono ?_; rintro _ _ ⟨rfl, rfl⟩
    exact ⟨rfl, Ext.refl _⟩
  refine RW_d _ rfl (fun v => by dsimp only [List.set]; try rfl) (fun u hu hF => ?_) (fun v21 => ?_)
  · have h13_ : v20 = (Bo (!(rlOk kind))) := hF.1
    clear hF
    refine doesG_un rfl ?_
    obtain rfl := h13_
    refine (does_move (u := (Bo (!(rlOk kind)))) (ev rfl)).mono ?_; rintro _ _ ⟨rfl, rfl⟩
    exact ⟨rfl, Ext.refl _⟩
  refine RW_d _ rfl (fun v => by dsimp only [List.set]; try rfl) (fun u hu hF => ?_) (fun v22 => ?_)
  · have h14_ : v21 = (Bo (!(rlOk kind))) := hF.1
    clear hF
    obtain rfl := h14_
    refine doesG_g (b := (!(rlOk kind))) rfl (yld rfl rfl) (fun hg1 => ?_) (fun hc => ⟨fun hg1 => absurd hg1 hc, Ext.refl _⟩)
    refine (does_move (u := (.slice p_nums L_nums.length q_nums)) (ev rfl)).mono ?_; rintro _ _ ⟨rfl, rfl⟩
    exact ⟨fun _ => rfl, Ext.refl _⟩
  refine RW_d _ rfl (fun v => by dsimp only [List.set]; try rfl) (fun u hu hF => ?_) (fun v23 => ?_)
  · have h15_ : (!(rlOk kind)) = false → v22 = (.slice p_nums L_nums.length q_nums) := hF.1
    have h14_ : v21 = (Bo (!(rlOk kind))) := hF.2.1
    clear hF
    obtain rfl := h14_
    refine doesG_g (b := (!(rlOk kind))) rfl (yld rfl rfl) (fun hg1 => ?_) (fun hc => ⟨fun hg1 => absurd hg1 hc, Ext.refl _⟩)
    obtain rfl := h15_ hg1
    refine (does_len_slice Try.underlying97 (ev rfl)).mono ?_; rintro _ _ ⟨rfl, rfl⟩
    exact ⟨fun _ => rfl, Ext.refl _⟩
  refine RW_d _ rfl (fun v => by dsimp only [List.set]; try rfl) (fun u hu hF => ?_) (fun v24 => ?_)
  · have h14_ : v21 = (Bo (!(rlOk kind))) := hF.1
    clear hF
    obtain rfl := h14_
    refine doesG_g (b := (!(rlOk kind))) rfl (yld rfl rfl) (fun hg1 => ?_) (fun hc => ⟨fun hg1 => absurd hg1 hc, Ext.refl _⟩)
    refine (does_fieldAddr (ev rfl) fa141_0).mono ?_; rintro _ _ ⟨rfl, rfl⟩
    exact ⟨fun _ => rfl, Ext.refl _⟩
  refine RW_d _ rfl (fun v => by dsimp only [List.set]; try rfl) (fun u hu hF => ?_) (fun v25 => ?_)
  · have h17_ : (!(rlOk kind)) = false → v24 = (Pt b6 0) := hF.1
    have h14_ : v21 = (Bo (!(rlOk kind))) := hF.2.1
    clear hF
    obtain rfl := h14_
    refine doesG_g (b := (!(rlOk kind))) rfl (yld rfl rfl) (fun hg1 => ?_) (fun hc => ⟨fun hg1 => absurd hg1 hc, Ext.refl _⟩)
    obtain rfl := h17_ hg1
    refine (does_load (u := (Iv ((ruleP kind).num))) (ev rfl) Try.isAgg3 (Cells.at (Blk.cells (hB14.ext hu)) 0 rfl)).mono ?_; rintro _ _ ⟨rfl, rfl⟩
    exact ⟨fun _ => rfl, Ext.refl _⟩
  refine RW_d _ rfl (fun v => by dsimp only [List.set]; try rfl) (fun u hu hF => ?_) (fun v26 => ?_)
  · have h16_ : (!(rlOk kind)) = false → v23 = (Iv (L_nums.length : Int)) := hF.1
    have h18_ : (!(rlOk kind)) = false → v25 = (Iv ((ruleP kind).num)) := hF.2.1
    have h14_ : v21 = (Bo (!(rlOk kind))) := hF.2.2.1
    clear hF
    obtain rfl := h14_
    refine doesG_g (b := (!(rlOk kind))) rfl (yld rfl rfl) (fun hg1 => ?_) (fun hc => ⟨fun hg1 => absurd hg1 hc, Ext.refl _⟩)
    obtain rfl := h16_ hg1
    obtain rfl := h18_ hg1
    refine (does_icmp (p := (L_nums.length : Int)) (q := (ruleP kind).num) (.inr (.inl rfl)) (ev rfl) (ev rfl)).mono ?_; rintro _ _ ⟨rfl, rfl⟩
    exact ⟨fun _ => (by first | rfl | (show _ = _; simp only [hβ1]; done) | (show _ = _; simp only [hβ1]; rfl)), Ext.refl _⟩
  refine RW_d _ rfl (fun v => by dsimp only [List.set]; try rfl) (fun u hu hF => ?_) (fun v27 => ?_)
  · have h14_ : v21 = (Bo (!(rlOk kind))) := hF.1
    have h19_ : (!(rlOk kind)) = false → v26 = (Bo β1) := hF.2.1
    clear hF
    refine doesG_un rfl ?_
    skip
    obtain rfl := h14_
    refine (does_pick (b := (!(rlOk kind))) (u := (Bo true)) (v := v26) (ev rfl) (ev rfl) (ev rfl)).mono ?_; rintro _ _ ⟨rfl, rfl⟩; refine ⟨?_, Ext.refl _⟩; skip
    cases hbb : (!(rlOk kind))
    all_goals first | (show _ = _; simp only [↓reduceIte, Bool.true_and, Bool.false_and, Bool.true_or, Bool.false_or, Bool.false_eq_true]; done) | (have e_ := h19_ hbb; subst e_; show _ = _; simp only [↓reduceIte, Bool.true_and, Bool.false_and, Bool.true_or, Bool.false_or, Bool.false_eq_true]; done) | rfl | (have e_ := h19_ hbb; subst e_; rfl) | (simp [hbb] at h19_ ⊢; first | done | rfl | (subst h19_; rfl) | simp_all) | (simp [hbb] at h19_ ⊢; done)
  refine RW_d _ rfl (fun v => by dsimp only [List.set]; try rfl) (fun u hu hF => ?_) (fun v28 => ?_)
  · have h20_ : v27 = (Bo ((!(rlOk kind)) || β1)) := hF.1
    clear hF
    refine doesG_un rfl ?_
    obtain rfl := h20_
    refine (does_move (u := (Bo ((!(rlOk kind)) || β1))) (ev rfl)).mono ?_; rintro _ _ ⟨rfl, rfl⟩
    exact ⟨rfl, Ext.refl _⟩
  refine RW_d _ rfl (fun v => by dsimp only [List.set]; try rfl) (fun u hu hF => ?_) (fun v29 => ?_)
  · have h21_ : v28 = (Bo ((!(rlOk kind)) || β1)) := hF.1
    clear hF
    obtain rfl := h21_
    refine doesG_g (b := ((!(rlOk kind)) || β1)) rfl (yld rfl rfl) (fun hg1 => ?_) (fun hc => ⟨fun hg1 => absurd hg1 hc, Ext.refl _⟩)
    refine (does_move (u := (.slice p_nums L_nums.length q_nums)) (ev rfl)).mono ?_; rintro _ _ ⟨rfl, rfl⟩
    exact ⟨fun _ => rfl, Ext.refl _⟩
  refine RW_d _ rfl (fun v => by dsimp only [List.set]; try rfl) (fun u hu hF => ?_) (fun v30 => ?_)
  · have h22_ : ((!(rlOk kind)) || β1) = false → v29 = (.slice p_nums L_nums.length q_nums) := hF.1
    have h21_ : v28 = (Bo ((!(rlOk kind)) || β1)) := hF.2.1
    clear hF
    obtain rfl := h21_
    refine doesG_g (b := ((!(rlOk kind)) || β1)) rfl (yld rfl rfl) (fun hg1 => ?_) (fun hc => ⟨fun hg1 => absurd hg1 hc, Ext.refl _⟩)
    obtain rfl := h22_ hg1
    refine (does_call (args := #[(.slice p_nums L_nums.length q_nums)]) cal79 (evs rfl) (c_impl_finite (.slice p_nums L_nums.length q_nums) L_nums _ (Sl.ext (Sl.ext hv_nums RF.mono X16) RF.mono hu))).mono ?_; rintro v u' ⟨hx, hv⟩
    exact ⟨fun _ => hv.trans (by simp only [hβ2]), hx⟩
  refine RW_d _ rfl (fun v => by dsimp only [List.set]; try rfl) (fun u hu hF => ?_) (fun v31 => ?_)
  · have h23_ : ((!(rlOk kind)) || β1) = false → v30 = (Bo β2) := hF.1
    have h21_ : v28 = (Bo ((!(rlOk kind)) || β1)) := hF.2.1
    clear hF
    obtain rfl := h21_
    refine doesG_g (b := ((!(rlOk kind)) || β1)) rfl (yld rfl rfl) (fun hg1 => ?_) (fun hc => ⟨fun hg1 => absurd hg1 hc, Ext.refl _⟩)
    obtain rfl := h23_ hg1
    refine (does_not (ev rfl)).mono ?_; rintro _ _ ⟨rfl, rfl⟩
    exact ⟨fun _ => rfl, Ext.refl _⟩
  refine RW_d _ rfl (fun v => by dsimp only [List.set]; try rfl) (fun u hu hF => ?_) (fun v32 => ?_)
  · have h21_ : v28 = (Bo ((!(rlOk kind)) || β1)) := hF.1
    have h24_ : ((!(rlOk kind)) || β1) = false → v31 = (Bo (!β2)) := hF.2.1
    clear hF
    refine doesG_un rfl ?_
    skip
    obtain rfl := h21_
    refine (does_pick (b := ((!(rlOk kind)) || β1)) (u := (Bo true)) (v := v31) (ev rfl) (ev rfl) (ev rfl)).mono ?_; rintro _ _ ⟨rfl, rfl⟩; refine ⟨?_, Ext.refl _⟩; rw [hβ3]; skip
    cases hbb : ((!(rlOk kind)) || β1)
    all_goals first | (show _ = _; simp only [↓reduceIte, Bool.true_and, Bool.false_and, Bool.true_or, Bool.false_or, Bool.false_eq_true]; done) | (have e_ := h24_ hbb; subst e_; show _ = _; simp only [↓reduceIte, Bool.true_and, Bool.false_and, Bool.true_or, Bool.false_or, Bool.false_eq_true]; done) | rfl | (have e_ := h24_ hbb; subst e_; rfl) | (simp [hbb] at h24_ ⊢; first | done | rfl | (subst h24_; rfl) | simp_all) | (simp [hbb] at h24_ ⊢; done)
  refine RW_fin ?_; intro w33 E34 hP35
  obtain ⟨⟨⟨⟨⟨⟨⟨⟨⟨⟨⟨⟨⟨⟨-, -⟩, -⟩, -⟩, -⟩, -⟩, -⟩, -⟩, -⟩, -⟩, -⟩, -⟩, -⟩, -⟩, q36⟩ := hP35
  have X37 := Ext.gr X16 E34
  have q36 : v32 = (Bo β3) := q36
  obtain rfl := q36
  show wpList _ _ _ _ (fr [_, _, _, _, _, _, _, _, _, _, _, _, _, _, _, _, _, _, _, _, _, _, _, _, _, _, _, _, _, _]) _
  refine wpList_nil (hK18 _ _ ?_)
  refine wp_cond_split (t := β3) (ev rfl) (fun c38 => ?_) (fun c38 => ?_)
  · have c38' := c38
    (try simp only [hβ1, hβ2, hβ3] at c38')
    (try simp only [icmp, Bool.and_eq_true, Bool.or_eq_true, Bool.and_eq_false_iff, Bool.or_eq_false_iff, Bool.not_eq_true', Bool.not_eq_false', decide_eq_true_eq, decide_eq_false_iff_not, beq_iff_eq, bne_iff_ne, beq_eq_false_iff_ne, bne_eq_false_iff_eq] at c38')
    refine wp_seq_k fun K39 hK39 => ?_
    refine wp_region_lit ?_
    refine q_is rfl rfl (does_assign (u := (Bo false)) (ev rfl)) (by dsimp only [List.set]; try rfl) ?_
    refine wpList_nil (hK39 _ _ ?_)
    refine wp_ret ?_
    dsimp only [Exit.then, Exit.inBlock]
    refine ret_val (v := (Bo false)) (res_T rfl (slot rfl)) X37 ?_
    try simp only [hβ1, hβ2, hβ3] at c38
    have x40 : (rlOk kind && nodeNums kind L_nums) = false := by first | exact numI_f (by assumption) | exact numI_t (by assumption)
    exact (by first | with_reducible rfl | rw [x40] | rfl)
  have c38' := c38
  (try simp only [hβ1, hβ2, hβ3] at c38')
  (try simp only [icmp, Bool.and_eq_true, Bool.or_eq_true, Bool.and_eq_false_iff, Bool.or_eq_false_iff, Bool.not_eq_true', Bool.not_eq_false', decide_eq_true_eq, decide_eq_false_iff_not, beq_iff_eq, bne_iff_ne, beq_eq_false_iff_ne, bne_eq_false_iff_eq] at c38')
  refine wp_skip (hK17 _ _ ?_)
  refine wp_seq_k fun K41 hK41 => ?_
  refine wp_region_lit ?_
  refine q_is rfl rfl (does_move (u := (.slice p_nums L_nums.length q_nums)) (ev rfl)) (by dsimp only [List.set]; try rfl) ?_
  refine q_is rfl rfl (does_makeFunc (u := (.func (.func 87) #[] #[(Pt b6 0)])) (evs rfl) (evs rfl) rfl) (by dsimp only [List.set]; try rfl) ?_
  refine seqd rfl rfl (does_call (args := #[(.slice p_nums L_nums.length q_nums), (.func (.func 87) #[] #[(Pt b6 0)])]) cal86 (evs rfl) (c_slices_ContainsFunc_float32_float32 (.slice p_nums L_nums.length q_nums) L_nums (.func (.func 87) #[] #[(Pt b6 0)]) (fun x => ((ruleP kind).sg == 1 && lssF x) || ((ruleP kind).sg == 2 && leqF x)) _ (Sl.ext hv_nums RF.mono X37) ⟨87, #[], #[(Pt b6 0)], rfl, cal87, fun r u hu' => by simpa using (c_impl_numbersOk_1 r b6 0 [(Iv ((ruleP kind).num)), (Iv ((ruleP kind).ch)), (Bo ((ruleP kind).ax)), (Iv ((ruleP kind).sg))] (ruleP kind) u (Blk.cells ((hB14.ext E34).ext hu')) rfl)⟩)) ?_; rintro _ w43 ⟨E42, rfl⟩
  have X44 := Ext.gr X37 E42
  show wpList _ _ _ _ (fr [_, _, _, _, _, _, _, _, _, _, _, _, _, _, _, _, _, _, _, _, _, _, _, _, _, _, _, _, _, _]) _
  refine q_is rfl rfl (does_not (ev rfl)) (by dsimp only [List.set]; try rfl) ?_
  refine q_is rfl rfl (does_assign (u := (Bo (!(L_nums.any (fun x => ((ruleP kind).sg == 1 && lssF x) || ((ruleP kind).sg == 2 && leqF x)))))) (ev rfl)) (by dsimp only [List.set]; try rfl) ?_
  refine wpList_nil (hK41 _ _ ?_)
  refine wp_ret ?_
  refine ret_val (v := (Bo (!(L_nums.any (fun x => ((ruleP kind).sg == 1 && lssF x) || ((ruleP kind).sg == 2 && leqF x)))))) (res_T rfl (slot rfl)) X44 ?_
  try simp only [hβ1, hβ2, hβ3] at c38
  have x45 : (rlOk kind && nodeNums kind L_nums) = (!(L_nums.any (fun x => ((ruleP kind).sg == 1 && lssF x) || ((ruleP kind).sg == 2 && leqF x)))) := by first | exact numI_f (by assumption) | exact numI_t (by assumption)
  exact (by first | with_reducible rfl | rw [x45] | rfl)

/- impl.axisOk -/
theorem c_impl_axisOk (n__b : Nat) (n__o : Nat) (n_ : List Value) (A_n_ : NodeT) (w : World) (hc_n_ : Cells w n__b n__o n_) (hv_n_ : RNodeT w A_n_ n_) : Gives Try.prog 57 #[(Pt n__b n__o)] w (fun v w' => v = (Bo (axOk A_n_))) := by
  obtain ⟨y1, rfl, h2⟩ := hv_n_
  have hs5 := h2; have hs5l := Sl.len h2; obtain ⟨p3, q4, rfl⟩ := Sl.shape h2
  refine enter [(Pt n__b n__o), Ud, Ud, Ud, Ud, Ud, Ud, Ud, Ud, Ud, Ud, Ud, Ud, Ud, Ud, Ud, Ud, Ud, Ud, Ud, Ud, Ud, Ud, Ud, Ud, Ud, Ud, Ud, Ud, Ud, Ud, Ud, Ud, Ud, Ud, Ud, Ud, Ud, Ud, Ud, Ud, Ud, Ud, Ud, Ud, Ud] Try.func57 rfl Try.ntmps57 rfl ?_
  refine wp_seq_k fun K6 hK6 => ?_
  refine wp_region_lit ?_
  refine q_is rfl rfl (does_assign (u := (Bo false)) (ev rfl)) (by dsimp only [List.set]; try rfl) ?_
  refine wpList_nil (hK6 _ _ ?_)
  refine wp_seq_k fun K7 hK7 => ?_
  refine wp_region_lit ?_
  refine q_is rfl rfl (does_move (u := (Pt n__b n__o)) (ev rfl)) (by dsimp only [List.set]; try rfl) ?_
  refine q_is rfl rfl (does_nilCheck (ev rfl)) (by dsimp only [List.set]; try rfl) ?_
  refine q_is rfl rfl (does_fieldAddr (ev rfl) fa102_0) (by dsimp only [List.set]; try rfl) ?_
  refine q_is rfl rfl (does_load (u := (Iv A_n_.kind)) (ev rfl) Try.isAgg2 (Cells.at hc_n_ 0 rfl)) (by dsimp only [List.set]; try rfl) ?_
  refine seqd rfl rfl (does_call (args := #[(Iv A_n_.kind)]) cal85 (evs rfl) (c_impl_ruleOf A_n_.kind _)) ?_; rintro _ w9 ⟨E8, ⟨_, rfl, rfl⟩⟩
  have X10 := Ext.gr (Ext.refl w) E8
  show wpList _ _ _ _ (fr [_, _, _, _, _, _, _, _, _, _, _, _, _, _, _, _, _, _, _, _, _, _, _, _, _, _, _, _, _, _, _, _, _, _, _, _, _, _, _, _, _, _, _, _, _, _]) _
  refine q_is rfl rfl (does_move (u := (.tuple #[(.agg #[(Iv ((ruleP A_n_.kind).num)), (Iv ((ruleP A_n_.kind).ch)), (Bo ((ruleP A_n_.kind).ax)), (Iv ((ruleP A_n_.kind).sg))]), (Bo (rlOk A_n_.kind))])) (ev rfl)) (by dsimp only [List.set]; try rfl) ?_
  refine q_is rfl rfl (does_extract (vs := #[(.agg #[(Iv ((ruleP A_n_.kind).num)), (Iv ((ruleP A_n_.kind).ch)), (Bo ((ruleP A_n_.kind).ax)), (Iv ((ruleP A_n_.kind).sg))]), (Bo (rlOk A_n_.kind))]) (u := (.agg #[(Iv ((ruleP A_n_.kind).num)), (Iv ((ruleP A_n_.kind).ch)), (Bo ((ruleP A_n_.kind).ax)), (Iv ((ruleP A_n_.kind).sg))])) (ev rfl) rfl) (by dsimp only [List.set]; try rfl) ?_
  refine q_is rfl rfl (does_extract (vs := #[(.agg #[(Iv ((ruleP A_n_.kind).num)), (Iv ((ruleP A_n_.kind).ch)), (Bo ((ruleP A_n_.kind).ax)), (Iv ((ruleP A_n_.kind).sg))]), (Bo (rlOk A_n_.kind))]) (u := (Bo (rlOk A_n_.kind))) (ev rfl) rfl) (by dsimp only [List.set]; try rfl) ?_
  refine seqd rfl rfl (does_alloc z141) ?_; rintro _ w15 ⟨b11, rfl, hb12, hB13, E14⟩
  have n16 : n__b < b11 := Nat.lt_of_lt_of_le (cell_lt (Cells.at (hc_n_.ext X10) 0 rfl)) hb12
  have g17 : w.heap.size ≤ b11 := Nat.le_trans (Below.size X10) hb12
  change Blk _ _ [(Iv 0), (Iv 0), (Bo false), (Iv 0)] at hB13
  have X18 := Ext.gr X10 E14
  show wpList _ _ _ _ (fr [_, _, _, _, _, _, _, _, _, _, _, _, _, _, _, _, _, _, _, _, _, _, _, _, _, _, _, _, _, _, _, _, _, _, _, _, _, _, _, _, _, _, _, _, _, _]) _
  refine seqn rfl rfl (does_store (n := 4) (cs := [(Iv 0), (Iv 0), (Bo false), (Iv 0)]) (u := (.agg #[(Iv ((ruleP A_n_.kind).num)), (Iv ((ruleP A_n_.kind).ch)), (Bo ((ruleP A_n_.kind).ax)), (Iv ((ruleP A_n_.kind).sg))])) (ev rfl) (ev rfl) Try.sizeOf141 rfl hB13 (Nat.le_of_ble_eq_true rfl) rfl) ?_; rintro _ w21 ⟨rfl, W19, hB20⟩
  change Blk _ _ [(Iv ((ruleP A_n_.kind).num)), (Iv ((ruleP A_n_.kind).ch)), (Bo ((ruleP A_n_.kind).ax)), (Iv ((ruleP A_n_.kind).sg))] at hB20
  have X22 := Below.wr X18 W19 g17
  refine q_is rfl rfl (does_assign (u := (Bo (rlOk A_n_.kind))) (ev rfl)) (by dsimp only [List.set]; try rfl) ?_
  refine wpList_nil (hK7 _ _ ?_)
  refine wp_seq_k fun K23 hK23 => ?_
  obtain ⟨β1, hβ1⟩ : ∃ b : Bool, b = (icmp .gtr ((ruleP A_n_.kind).ch) 0) := ⟨_, rfl⟩
  obtain ⟨β2, hβ2⟩ : ∃ b : Bool, b = (β1 || (icmp .eql A_n_.a 0)) := ⟨_, rfl⟩
  obtain ⟨β3, hβ3⟩ : ∃ b : Bool, b = (icmp .eql ((ruleP A_n_.kind).ch) 2) := ⟨_, rfl⟩
  obtain ⟨β4, hβ4⟩ : ∃ b : Bool, b = (β3 || (icmp .eql A_n_.b 0)) := ⟨_, rfl⟩
  obtain ⟨β5, hβ5⟩ : ∃ b : Bool, b = (((ruleP A_n_.kind).ax) && (inI A_n_.b 0 2)) := ⟨_, rfl⟩
  refine region_text (
    [Fact.pure [] (fun v => v = (Pt b11 1)),
    Fact.pure [13] (fun v => v = (Iv ((ruleP A_n_.kind).ch))),
    Fact.pure [14] (fun v => v = (Bo β1)),
    Fact.pure [15] (fun v => v = (Bo β1)),
    Fact.pure [16] (fun v => β1 = false → v = (Pt n__b n__o)),
    Fact.pure [17, 16] (fun v => β1 = false → v = (Pt n__b n__o)),
    Fact.pure [18, 16] (fun v => β1 = false → v = (Pt n__b (n__o + 1))),
    Fact.pure [19, 16] (fun v => β1 = false → v = (Iv A_n_.a)),
    Fact.pure [20, 16] (fun v => β1 = false → v = (Bo (icmp .eql A_n_.a 0))),
    Fact.pure [16, 21] (fun v => v = (Bo β2)),
    Fact.pure [22] (fun v => v = (Bo β2)),
    Fact.pure [23] (fun v => β2 = true → v = (Pt b11 1)),
    Fact.pure [24, 23] (fun v => β2 = true → v = (Iv ((ruleP A_n_.kind).ch))),
    Fact.pure [25, 23] (fun v => β2 = true → v = (Bo β3)),
    Fact.pure [26, 23] (fun v => (β2 = true → v = (Bo β3)) ∧ (¬ (β2 = true) → v = undef)),
    Fact.pure [27] (fun v => β2 = true → β3 = false → v = (Pt n__b n__o)),
    Fact.pure [28, 27] (fun v => β2 = true → β3 = false → v = (Pt n__b n__o)),
    Fact.pure [29, 27] (fun v => β2 = true → β3 = false → v = (Pt n__b (n__o + 2))),
    Fact.pure [30, 27] (fun v => β2 = true → β3 = false → v = (Iv A_n_.b)),
    Fact.pure [31, 27] (fun v => β2 = true → β3 = false → v = (Bo (icmp .eql A_n_.b 0))),
    Fact.pure [27, 32, 23] (fun v => β2 = true → v = (Bo β4)),
    Fact.pure [33, 23] (fun v => (β2 = true → v = (Bo β4)) ∧ (¬ (β2 = true) → v = undef)),
    Fact.pure [34] (fun v => β2 = true → β4 = false → v = (Pt b11 2)),
    Fact.pure [35, 34] (fun v => β2 = true → β4 = false → v = (Bo ((ruleP A_n_.kind).ax))),
    Fact.pure [36, 34] (fun v => (β2 = true → β4 = false → v = (Bo ((ruleP A_n_.kind).ax))) ∧ (¬ (β2 = true ∧ β4 = false) → v = undef)),
    Fact.pure [37] (fun v => β2 = true → β4 = false → ((ruleP A_n_.kind).ax) = true → v = (Pt n__b n__o)),
    Fact.pure [38, 37] (fun v => β2 = true → β4 = false → ((ruleP A_n_.kind).ax) = true → v = (Pt n__b n__o)),
    Fact.pure [39, 37] (fun v => β2 = true → β4 = false → ((ruleP A_n_.kind).ax) = true → v = (Pt n__b (n__o + 2))),
    Fact.pure [40, 37] (fun v => β2 = true → β4 = false → ((ruleP A_n_.kind).ax) = true → v = (Iv A_n_.b)),
    Fact.pure [41, 37] (fun v => β2 = true → β4 = false → ((ruleP A_n_.kind).ax) = true → v = (Bo (inI A_n_.b 0 2))),
    Fact.pure [37, 42, 34] (fun v => β2 = true → β4 = false → v = (Bo β5)),
    Fact.pure [34, 43, 23] (fun v => β2 = true → v = (Bo (β4 || β5))),
    Fact.pure [23, 44] (fun v => v = (Bo (β2 && (β4 || β5))))]) (by simp [Fact.pure, Fact.mem]) ?_
  refine RW_d _ rfl (fun v => by dsimp only [List.set]; try rfl) (fun u hu hF => ?_) (fun v24 => ?_)
  · clear hF
    refine doesG_un rfl ?_
    refine (does_fieldAddr (ev rfl) fa141_1).mono ?_; rintro _ _ ⟨rfl, rfl⟩
    exact ⟨rfl, Ext.refl _⟩
  refine RW_d _ rfl (fun v => by dsimp only [List.set]; try rfl) (fun u hu hF => ?_) (fun v25 => ?_)
  · have h13_ : v24 = (Pt b11 1) := hF.1
    clear hF
    refine doesG_un rfl ?_
    obtain rfl := h13_
    refine (does_load (u := (Iv ((ruleP A_n_.kind).ch))) (ev rfl) Try.isAgg3 (Cells.at (Blk.cells (hB20.ext hu)) 1 rfl)).mono ?_; rintro _ _ ⟨rfl, rfl⟩
    exact ⟨rfl, Ext.refl _⟩
  refine RW_d _ rfl (fun v => by dsimp only [List.set]; try rfl) (fun u hu hF => ?_) (fun v26 => ?_)
  · have h14_ : v25 = (Iv ((ruleP A_n_.kind).ch)) := hF.1
    clear hF
    refine doesG_un rfl ?_
    obtain rfl := h14_
    refine (does_icmp (p := (ruleP A_n_.kind).ch) (q := 0) (.inr (.inr (.inr (.inr (.inl rfl))))) (ev rfl) (ev rfl)).mono ?_; rintro _ _ ⟨rfl, rfl⟩
    exact ⟨(by first | rfl | (show _ = _; simp only [hβ1]; done) | (show _ = _; simp only [hβ1]; rfl)), Ext.refl _⟩
  refine RW_d _ rfl (fun v => by dsimp only [List.set]; try rfl) (fun u hu hF => ?_) (fun v27 => ?_)
  · have h15_ : v26 = (Bo β1) := hF.1
    clear hF
    refine doesG_un rfl ?_
    obtain rfl := h15_
    refine (does_move (u := (Bo β1)) (ev rfl)).mono ?_; rintro _ _ ⟨rfl, rfl⟩
    exact ⟨rfl, Ext.refl _⟩
  refine RW_d _ rfl (fun v => by dsimp only [List.set]; try rfl) (fun u hu hF => ?_) (fun v28 => ?_)
  · have h16_ : v27 = (Bo β1) := hF.1
    clear hF
    obtain rfl := h16_
    refine doesG_g (b := β1) rfl (yld rfl rfl) (fun hg1 => ?_) (fun hc => ⟨fun hg1 => absurd hg1 hc, Ext.refl _⟩)
    refine (does_move (u := (Pt n__b n__o)) (ev rfl)).mono ?_; rintro _ _ ⟨rfl, rfl⟩
    exact ⟨fun _ => rfl, Ext.refl _⟩
  refine RW_d _ rfl (fun v => by dsimp only [List.set]; try rfl) (fun u hu hF => ?_) (fun v29 => ?_)
  · have h17_ : β1 = false → v28 = (Pt n__b n__o) := hF.1
    have h16_ : v27 = (Bo β1) := hF.2.1
    clear hF
    obtain rfl := h16_
    refine doesG_g (b := β1) rfl (yld rfl rfl) (fun hg1 => ?_) (fun hc => ⟨fun hg1 => absurd hg1 hc, Ext.refl _⟩)
    obtain rfl := h17_ hg1
    refine (does_nilCheck (ev rfl)).mono ?_; rintro _ _ ⟨rfl, rfl⟩
    exact ⟨fun _ => rfl, Ext.refl _⟩
  refine RW_d _ rfl (fun v => by dsimp only [List.set]; try rfl) (fun u hu hF => ?_) (fun v30 => ?_)
  · have h18_ : β1 = false → v29 = (Pt n__b n__o) := hF.1
    have h16_ : v27 = (Bo β1) := hF.2.1
    clear hF
    obtain rfl := h16_
    refine doesG_g (b := β1) rfl (yld rfl rfl) (fun hg1 => ?_) (fun hc => ⟨fun hg1 => absurd hg1 hc, Ext.refl _⟩)
    obtain rfl := h18_ hg1
    refine (does_fieldAddr (ev rfl) fa102_1).mono ?_; rintro _ _ ⟨rfl, rfl⟩
    exact ⟨fun _ => rfl, Ext.refl _⟩
  refine RW_d _ rfl (fun v => by dsimp only [List.set]; try rfl) (fun u hu hF => ?_) (fun v31 => ?_)
  · have h19_ : β1 = false → v30 = (Pt n__b (n__o + 1)) := hF.1
    have h16_ : v27 = (Bo β1) := hF.2.1
    clear hF
    obtain rfl := h16_
    refine doesG_g (b := β1) rfl (yld rfl rfl) (fun hg1 => ?_) (fun hc => ⟨fun hg1 => absurd hg1 hc, Ext.refl _⟩)
    obtain rfl := h19_ hg1
    refine (does_load (u := (Iv A_n_.a)) (ev rfl) Try.isAgg2 (Cells.at ((hc_n_.ext X22).ext hu) 1 rfl)).mono ?_; rintro _ _ ⟨rfl, rfl⟩
    exact ⟨fun _ => rfl, Ext.refl _⟩
  refine RW_d _ rfl (fun v => by dsimp only [List.set]; try rfl) (fun u hu hF => ?_) (fun v32 => ?_)
  · have h20_ : β1 = false → v31 = (Iv A_n_.a) := hF.1
    have h16_ : v27 = (Bo β1) := hF.2.1
    clear hF
    obtain rfl := h16_
    refine doesG_g (b := β1) rfl (yld rfl rfl) (fun hg1 => ?_) (fun hc => ⟨fun hg1 => absurd hg1 hc, Ext.refl _⟩)
    obtain rfl := h20_ hg1
    refine (does_icmp (p := A_n_.a) (q := 0) (.inl rfl) (ev rfl) (ev rfl)).mono ?_; rintro _ _ ⟨rfl, rfl⟩
    exact ⟨fun _ => rfl, Ext.refl _⟩
  refine RW_d _ rfl (fun v => by dsimp only [List.set]; try rfl) (fun u hu hF => ?_) (fun v33 => ?_)
  · have h16_ : v27 = (Bo β1) := hF.1
    have h21_ : β1 = false → v32 = (Bo (icmp .eql A_n_.a 0)) := hF.2.1
    clear hF
    refine doesG_un rfl ?_
    skip
    obtain rfl := h16_
    refine (does_pick (b := β1) (u := (Bo true)) (v := v32) (ev rfl) (ev rfl) (ev rfl)).mono ?_; rintro _ _ ⟨rfl, rfl⟩; refine ⟨?_, Ext.refl _⟩; rw [hβ2]; skip
    cases hbb : β1
    all_goals first | (show _ = _; simp only [↓reduceIte, Bool.true_and, Bool.false_and, Bool.true_or, Bool.false_or, Bool.false_eq_true]; done) | (have e_ := h21_ hbb; subst e_; show _ = _; simp only [↓reduceIte, Bool.true_and, Bool.false_and, Bool.true_or, Bool.false_or, Bool.false_eq_true]; done) | rfl | (have e_ := h21_ hbb; subst e_; rfl) | (simp [hbb] at h21_ ⊢; first | done | rfl | (subst h21_; rfl) | simp_all) | (simp [hbb] at h21_ ⊢; done)
  refine RW_d _ rfl (fun v => by dsimp only [List.set]; try rfl) (fun u hu hF => ?_) (fun v34 => ?_)
  · have h22_ : v33 = (Bo β2) := hF.1
    clear hF
    refine doesG_un rfl ?_
    obtain rfl := h22_
    refine (does_move (u := (Bo β2)) (ev rfl)).mono ?_; rintro _ _ ⟨rfl, rfl⟩
    exact ⟨rfl, Ext.refl _⟩
  refine RW_d _ rfl (fun v => by dsimp only [List.set]; try rfl) (fun u hu hF => ?_) (fun v35 => ?_)
  · have h23_ : v34 = (Bo β2) := hF.1
    clear hF
    obtain rfl := h23_
    refine doesG_g (b := β2) rfl (yld rfl rfl) (fun hg1 => ?_) (fun hc => ⟨fun hg1 => absurd hg1 hc, Ext.refl _⟩)
    refine (does_fieldAddr (ev rfl) fa141_1).mono ?_; rintro _ _ ⟨rfl, rfl⟩
    exact ⟨fun _ => rfl, Ext.refl _⟩
  refine RW_d _ rfl (fun v => by dsimp only [List.set]; try rfl) (fun u hu hF => ?_) (fun v36 => ?_)
  · have h24_ : β2 = true → v35 = (Pt b11 1) := hF.1
    have h23_ : v34 = (Bo β2) := hF.2.1
    clear hF
    obtain rfl := h23_
    refine doesG_g (b := β2) rfl (yld rfl rfl) (fun hg1 => ?_) (fun hc => ⟨fun hg1 => absurd hg1 hc, Ext.refl _⟩)
    obtain rfl := h24_ hg1
    refine (does_load (u := (Iv ((ruleP A_n_.kind).ch))) (ev rfl) Try.isAgg3 (Cells.at (Blk.cells (hB20.ext hu)) 1 rfl)).mono ?_; rintro _ _ ⟨rfl, rfl⟩
    exact ⟨fun _ => rfl, Ext.refl _⟩
  refine RW_d _ rfl (fun v => by dsimp only [List.set]; try rfl) (fun u hu hF => ?_) (fun v37 => ?_)
  · have h25_ : β2 = true → v36 = (Iv ((ruleP A_n_.kind).ch)) := hF.1
    have h23_ : v34 = (Bo β2) := hF.2.1
    clear hF
    obtain rfl := h23_
    refine doesG_g (b := β2) rfl (yld rfl rfl) (fun hg1 => ?_) (fun hc => ⟨fun hg1 => absurd hg1 hc, Ext.refl _⟩)
    obtain rfl := h25_ hg1
    refine (does_icmp (p := (ruleP A_n_.kind).ch) (q := 2) (.inl rfl) (ev rfl) (ev rfl)).mono ?_; rintro _ _ ⟨rfl, rfl⟩
    exact ⟨fun _ => (by first | rfl | (show _ = _; simp only [hβ3]; done) | (show _ = _; simp only [hβ3]; rfl)), Ext.refl _⟩
  refine RW_d _ rfl (fun v => by dsimp only [List.set]; try rfl) (fun u hu hF => ?_) (fun v38 => ?_)
  · have h26_ : β2 = true → v37 = (Bo β3) := hF.1
    have h23_ : v34 = (Bo β2) := hF.2.1
    clear hF
    obtain rfl := h23_
    refine doesG_g (b := β2) rfl (yld rfl rfl) (fun hg1 => ?_) (fun hc => ⟨⟨fun hg1 => absurd hg1 hc, fun _ => rfl⟩, Ext.refl _⟩)
    obtain rfl := h26_ hg1
    refine (does_move (u := (Bo β3)) (ev rfl)).mono ?_; rintro _ _ ⟨rfl, rfl⟩
    exact ⟨⟨fun _ => rfl, fun hn => absurd hg1 hn⟩, Ext.refl _⟩
  refine RW_d _ rfl (fun v => by dsimp only [List.set]; try rfl) (fun u hu hF => ?_) (fun v39 => ?_)
  · have h27_ : (β2 = true → v38 = (Bo β3)) ∧ (¬ (β2 = true) → v38 = undef) := hF.1; have h27u := h27_.2; replace h27_ := h27_.1
    clear hF
    refine doesG_gg (b := β3) (c := β2 = true) rfl (fun hc => ?_) (fun hc => ?_) (fun hc hg2 => ?_) (fun hc => ⟨fun hg1 hg2 => absurd ⟨hg1, hg2⟩ hc, Ext.refl _⟩)
    · have hg1 := hc; obtain rfl := h27_ hg1; exact yld rfl rfl
    · obtain rfl := h27u hc; exact yldn rfl rfl
    have hg1 := hc
    obtain rfl := h27_ hg1
    refine (does_move (u := (Pt n__b n__o)) (ev rfl)).mono ?_; rintro _ _ ⟨rfl, rfl⟩
    exact ⟨fun _ _ => rfl, Ext.refl _⟩
  refine RW_d _ rfl (fun v => by dsimp only [List.set]; try rfl) (fun u hu hF => ?_) (fun v40 => ?_)
  · have h28_ : β2 = true → β3 = false → v39 = (Pt n__b n__o) := hF.1
    have h27_ : (β2 = true → v38 = (Bo β3)) ∧ (¬ (β2 = true) → v38 = undef) := hF.2.1; have h27u := h27_.2; replace h27_ := h27_.1
    clear hF
    refine doesG_gg (b := β3) (c := β2 = true) rfl (fun hc => ?_) (fun hc => ?_) (fun hc hg2 => ?_) (fun hc => ⟨fun hg1 hg2 => absurd ⟨hg1, hg2⟩ hc, Ext.refl _⟩)
    · have hg1 := hc; obtain rfl := h27_ hg1; exact yld rfl rfl
    · obtain rfl := h27u hc; exact yldn rfl rfl
    have hg1 := hc
    obtain rfl := h27_ hg1
    obtain rfl := h28_ hg1 hg2
    refine (does_nilCheck (ev rfl)).mono ?_; rintro _ _ ⟨rfl, rfl⟩
    exact ⟨fun _ _ => rfl, Ext.refl _⟩
  refine RW_d _ rfl (fun v => by dsimp only [List.set]; try rfl) (fun u hu hF => ?_) (fun v41 => ?_)
  · have h29_ : β2 = true → β3 = false → v40 = (Pt n__b n__o) := hF.1
    have h27_ : (β2 = true → v38 = (Bo β3)) ∧ (¬ (β2 = true) → v38 = undef) := hF.2.1; have h27u := h27_.2; replace h27_ := h27_.1
    clear hF
    refine doesG_gg (b := β3) (c := β2 = true) rfl (fun hc => ?_) (fun hc => ?_) (fun hc hg2 => ?_) (fun hc => ⟨fun hg1 hg2 => absurd ⟨hg1, hg2⟩ hc, Ext.refl _⟩)
    · have hg1 := hc; obtain rfl := h27_ hg1; exact yld rfl rfl
    · obtain rfl := h27u hc; exact yldn rfl rfl
    have hg1 := hc
    obtain rfl := h27_ hg1
    obtain rfl := h29_ hg1 hg2
    refine (does_fieldAddr (ev rfl) fa102_2).mono ?_; rintro _ _ ⟨rfl, rfl⟩
    exact ⟨fun _ _ => rfl, Ext.refl _⟩
  refine RW_d _ rfl (fun v => by dsimp only [List.set]; try rfl) (fun u hu hF => ?_) (fun v42 => ?_)
  · have h30_ : β2 = true → β3 = false → v41 = (Pt n__b (n__o + 2)) := hF.1
    have h27_ : (β2 = true → v38 = (Bo β3)) ∧ (¬ (β2 = true) → v38 = undef) := hF.2.1; have h27u := h27_.2; replace h27_ := h27_.1
    clear hF
    refine doesG_gg (b := β3) (c := β2 = true) rfl (fun hc => ?_) (fun hc => ?_) (fun hc hg2 => ?_) (fun hc => ⟨fun hg1 hg2 => absurd ⟨hg1, hg2⟩ hc, Ext.refl _⟩)
    · have hg1 := hc; obtain rfl := h27_ hg1; exact yld rfl rfl
    · obtain rfl := h27u hc; exact yldn rfl rfl
    have hg1 := hc
    obtain rfl := h27_ hg1
    obtain rfl := h30_ hg1 hg2
    refine (does_load (u := (Iv A_n_.b)) (ev rfl) Try.isAgg2 (Cells.at ((hc_n_.ext X22).ext hu) 2 rfl)).mono ?_; rintro _ _ ⟨rfl, rfl⟩
    exact ⟨fun _ _ => rfl, Ext.refl _⟩
  refine RW_d _ rfl (fun v => by dsimp only [List.set]; try rfl) (fun u hu hF => ?_) (fun v43 => ?_)
  · have h31_ : β2 = true → β3 = false → v42 = (Iv A_n_.b) := hF.1
    have h27_ : (β2 = true → v38 = (Bo β3)) ∧ (¬ (β2 = true) → v38 = undef) := hF.2.1; have h27u := h27_.2; replace h27_ := h27_.1
    clear hF
    refine doesG_gg (b := β3) (c := β2 = true) rfl (fun hc => ?_) (fun hc => ?_) (fun hc hg2 => ?_) (fun hc => ⟨fun hg1 hg2 => absurd ⟨hg1, hg2⟩ hc, Ext.refl _⟩)
    · have hg1 := hc; obtain rfl := h27_ hg1; exact yld rfl rfl
    · obtain rfl := h27u hc; exact yldn rfl rfl
    have hg1 := hc
    obtain rfl := h27_ hg1
    obtain rfl := h31_ hg1 hg2
    refine (does_icmp (p := A_n_.b) (q := 0) (.inl rfl) (ev rfl) (ev rfl)).mono ?_; rintro _ _ ⟨rfl, rfl⟩
    exact ⟨fun _ _ => rfl, Ext.refl _⟩
  refine RW_d _ rfl (fun v => by dsimp only [List.set]; try rfl) (fun u hu hF => ?_) (fun v44 => ?_)
  · have h27_ : (β2 = true → v38 = (Bo β3)) ∧ (¬ (β2 = true) → v38 = undef) := hF.1; have h27u := h27_.2; replace h27_ := h27_.1
    have h32_ : β2 = true → β3 = false → v43 = (Bo (icmp .eql A_n_.b 0)) := hF.2.1
    have h23_ : v34 = (Bo β2) := hF.2.2.1
    clear hF
    obtain rfl := h23_
    refine doesG_g (b := β2) rfl (yld rfl rfl) (fun hg1 => ?_) (fun hc => ⟨fun hg1 => absurd hg1 hc, Ext.refl _⟩)
    skip
    obtain rfl := h27_ hg1
    replace h32_ := h32_ hg1
    refine (does_pick (b := β3) (u := (Bo true)) (v := v43) (ev rfl) (ev rfl) (ev rfl)).mono ?_; rintro _ _ ⟨rfl, rfl⟩; refine ⟨fun _ => ?_, Ext.refl _⟩; rw [hβ4]; skip
    cases hbb : β3
    all_goals first | (show _ = _; simp only [↓reduceIte, Bool.true_and, Bool.false_and, Bool.true_or, Bool.false_or, Bool.false_eq_true]; done) | (have e_ := h32_ hbb; subst e_; show _ = _; simp only [↓reduceIte, Bool.true_and, Bool.false_and, Bool.true_or, Bool.false_or, Bool.false_eq_true]; done) | rfl | (have e_ := h32_ hbb; subst e_; rfl) | (simp [hbb] at h32_ ⊢; first | done | rfl | (subst h32_; rfl) | simp_all) | (simp [hbb] at h32_ ⊢; done)
  refine RW_d _ rfl (fun v => by dsimp only [List.set]; try rfl) (fun u hu hF => ?_) (fun v45 => ?_)
  · have h33_ : β2 = true → v44 = (Bo β4) := hF.1
    have h23_ : v34 = (Bo β2) := hF.2.1
    clear hF
    obtain rfl := h23_
    refine doesG_g (b := β2) rfl (yld rfl rfl) (fun hg1 => ?_) (fun hc => ⟨⟨fun hg1 => absurd hg1 hc, fun _ => rfl⟩, Ext.refl _⟩)
    obtain rfl := h33_ hg1
    refine (does_move (u := (Bo β4)) (ev rfl)).mono ?_; rintro _ _ ⟨rfl, rfl⟩
    exact ⟨⟨fun _ => rfl, fun hn => absurd hg1 hn⟩, Ext.refl _⟩
  refine RW_d _ rfl (fun v => by dsimp only [List.set]; try rfl) (fun u hu hF => ?_) (fun v46 => ?_)
  · have h34_ : (β2 = true → v45 = (Bo β4)) ∧ (¬ (β2 = true) → v45 = undef) := hF.1; have h34u := h34_.2; replace h34_ := h34_.1
    clear hF
    refine doesG_gg (b := β4) (c := β2 = true) rfl (fun hc => ?_) (fun hc => ?_) (fun hc hg2 => ?_) (fun hc => ⟨fun hg1 hg2 => absurd ⟨hg1, hg2⟩ hc, Ext.refl _⟩)
    · have hg1 := hc; obtain rfl := h34_ hg1; exact yld rfl rfl
    · obtain rfl := h34u hc; exact yldn rfl rfl
    have hg1 := hc
    obtain rfl := h34_ hg1
    refine (does_fieldAddr (ev rfl) fa141_2).mono ?_; rintro _ _ ⟨rfl, rfl⟩
    exact ⟨fun _ _ => rfl, Ext.refl _⟩
  refine RW_d _ rfl (fun v => by dsimp only [List.set]; try rfl) (fun u hu hF => ?_) (fun v47 => ?_)
  · have h35_ : β2 = true → β4 = false → v46 = (Pt b11 2) := hF.1
    have h34_ : (β2 = true → v45 = (Bo β4)) ∧ (¬ (β2 = true) → v45 = undef) := hF.2.1; have h34u := h34_.2; replace h34_ := h34_.1
    clear hF
    refine doesG_gg (b := β4) (c := β2 = true) rfl (fun hc => ?_) (fun hc => ?_) (fun hc hg2 => ?_) (fun hc => ⟨fun hg1 hg2 => absurd ⟨hg1, hg2⟩ hc, Ext.refl _⟩)
    · have hg1 := hc; obtain rfl := h34_ hg1; exact yld rfl rfl
    · obtain rfl := h34u hc; exact yldn rfl rfl
    have hg1 := hc
    obtain rfl := h34_ hg1
    obtain rfl := h35_ hg1 hg2
    refine (does_load (u := (Bo ((ruleP A_n_.kind).ax))) (ev rfl) Try.isAgg4 (Cells.at (Blk.cells (hB20.ext hu)) 2 rfl)).mono ?_; rintro _ _ ⟨rfl, rfl⟩
    exact ⟨fun _ _ => rfl, Ext.refl _⟩
  refine RW_d _ rfl (fun v => by dsimp only [List.set]; try rfl) (fun u hu hF => ?_) (fun v48 => ?_)
  · have h36_ : β2 = true → β4 = false → v47 = (Bo ((ruleP A_n_.kind).ax)) := hF.1
    have h34_ : (β2 = true → v45 = (Bo β4)) ∧ (¬ (β2 = true) → v45 = undef) := hF.2.1; have h34u := h34_.2; replace h34_ := h34_.1
    clear hF
    refine doesG_gg (b := β4) (c := β2 = true) rfl (fun hc => ?_) (fun hc => ?_) (fun hc hg2 => ?_) (fun hc => ⟨⟨fun hg1 hg2 => absurd ⟨hg1, hg2⟩ hc, fun _ => rfl⟩, Ext.refl _⟩)
    · have hg1 := hc; obtain rfl := h34_ hg1; exact yld rfl rfl
    · obtain rfl := h34u hc; exact yldn rfl rfl
    have hg1 := hc
    obtain rfl := h34_ hg1
    obtain rfl := h36_ hg1 hg2
    refine (does_move (u := (Bo ((ruleP A_n_.kind).ax))) (ev rfl)).mono ?_; rintro _ _ ⟨rfl, rfl⟩
    exact ⟨⟨fun _ _ => rfl, fun hn => absurd ⟨hg1, hg2⟩ hn⟩, Ext.refl _⟩
  refine RW_d _ rfl (fun v => by dsimp only [List.set]; try rfl) (fun u hu hF => ?_) (fun v49 => ?_)
  · have h37_ : (β2 = true → β4 = false → v48 = (Bo ((ruleP A_n_.kind).ax))) ∧ (¬ (β2 = true ∧ β4 = false) → v48 = undef) := hF.1; have h37u := h37_.2; replace h37_ := h37_.1
    clear hF
    refine doesG_gg (b := ((ruleP A_n_.kind).ax)) (c := β2 = true ∧ β4 = false) rfl (fun hc => ?_) (fun hc => ?_) (fun hc hg3 => ?_) (fun hc => ⟨fun hg1 hg2 hg3 => absurd ⟨⟨hg1, hg2⟩, hg3⟩ hc, Ext.refl _⟩)
    · obtain ⟨hg1, hg2⟩ := hc; obtain rfl := h37_ hg1 hg2; exact yld rfl rfl
    · obtain rfl := h37u hc; exact yldn rfl rfl
    obtain ⟨hg1, hg2⟩ := hc
    obtain rfl := h37_ hg1 hg2
    refine (does_move (u := (Pt n__b n__o)) (ev rfl)).mono ?_; rintro _ _ ⟨rfl, rfl⟩
    exact ⟨fun _ _ _ => rfl, Ext.refl _⟩
  refine RW_d _ rfl (fun v => by dsimp only [List.set]; try rfl) (fun u hu hF => ?_) (fun v50 => ?_)
  · have h38_ : β2 = true → β4 = false → ((ruleP A_n_.kind).ax) = true → v49 = (Pt n__b n__o) := hF.1
    have h37_ : (β2 = true → β4 = false → v48 = (Bo ((ruleP A_n_.kind).ax))) ∧ (¬ (β2 = true ∧ β4 = false) → v48 = undef) := hF.2.1; have h37u := h37_.2; replace h37_ := h37_.1
    clear hF
    refine doesG_gg (b := ((ruleP A_n_.kind).ax)) (c := β2 = true ∧ β4 = false) rfl (fun hc => ?_) (fun hc => ?_) (fun hc hg3 => ?_) (fun hc => ⟨fun hg1 hg2 hg3 => absurd ⟨⟨hg1, hg2⟩, hg3⟩ hc, Ext.refl _⟩)
    · obtain ⟨hg1, hg2⟩ := hc; obtain rfl := h37_ hg1 hg2; exact yld rfl rfl
    · obtain rfl := h37u hc; exact yldn rfl rfl
    obtain ⟨hg1, hg2⟩ := hc
    obtain rfl := h37_ hg1 hg2
    obtain rfl := h38_ hg1 hg2 hg3
    refine (does_nilCheck (ev rfl)).mono ?_; rintro _ _ ⟨rfl, rfl⟩
    exact ⟨fun _ _ _ => rfl, Ext.refl _⟩
  refine RW_d _ rfl (fun v => by dsimp only [List.set]; try rfl) (fun u hu hF => ?_) (fun v51 => ?_)
  · have h39_ : β2 = true → β4 = false → ((ruleP A_n_.kind).ax) = true → v50 = (Pt n__b n__o) := hF.1
    have h37_ : (β2 = true → β4 = false → v48 = (Bo ((ruleP A_n_.kind).ax))) ∧ (¬ (β2 = true ∧ β4 = false) → v48 = undef) := hF.2.1; have h37u := h37_.2; replace h37_ := h37_.1
    clear hF
    refine doesG_gg (b := ((ruleP A_n_.kind).ax)) (c := β2 = true ∧ β4 = false) rfl (fun hc => ?_) (fun hc => ?_) (fun hc hg3 => ?_) (fun hc => ⟨fun hg1 hg2 hg3 => absurd ⟨⟨hg1, hg2⟩, hg3⟩ hc, Ext.refl _⟩)
    · obtain ⟨hg1, hg2⟩ := hc; obtain rfl := h37_ hg1 hg2; exact yld rfl rfl
    · obtain rfl := h37u hc; exact yldn rfl rfl
    obtain ⟨hg1, hg2⟩ := hc
    obtain rfl := h37_ hg1 hg2
    obtain rfl := h39_ hg1 hg2 hg3
    refine (does_fieldAddr (ev rfl) fa102_2).mono ?_; rintro _ _ ⟨rfl, rfl⟩
    exact ⟨fun _ _ _ => rfl, Ext.refl _⟩
  refine RW_d _ rfl (fun v => by dsimp only [List.set]; try rfl) (fun u hu hF => ?_) (fun v52 => ?_)
  · have h40_ : β2 = true → β4 = false → ((ruleP A_n_.kind).ax) = true → v51 = (Pt n__b (n__o + 2)) := hF.1
    have h37_ : (β2 = true → β4 = false → v48 = (Bo ((ruleP A_n_.kind).ax))) ∧ (¬ (β2 = true ∧ β4 = false) → v48 = undef) := hF.2.1; have h37u := h37_.2; replace h37_ := h37_.1
    clear hF
    refine doesG_gg (b := ((ruleP A_n_.kind).ax)) (c := β2 = true ∧ β4 = false) rfl (fun hc => ?_) (fun hc => ?_) (fun hc hg3 => ?_) (fun hc => ⟨fun hg1 hg2 hg3 => absurd ⟨⟨hg1, hg2⟩, hg3⟩ hc, Ext.refl _⟩)
    · obtain ⟨hg1, hg2⟩ := hc; obtain rfl := h37_ hg1 hg2; exact yld rfl rfl
    · obtain rfl := h37u hc; exact yldn rfl rfl
    obtain ⟨hg1, hg2⟩ := hc
    obtain rfl := h37_ hg1 hg2
    obtain rfl := h40_ hg1 hg2 hg3
    refine (does_load (u := (Iv A_n_.b)) (ev rfl) Try.isAgg2 (Cells.at ((hc_n_.ext X22).ext hu) 2 rfl)).mono ?_; rintro _ _ ⟨rfl, rfl⟩
    exact ⟨fun _ _ _ => rfl, Ext.refl _⟩
  refine RW_d _ rfl (fun v => by dsimp only [List.set]; try rfl) (fun u hu hF => ?_) (fun v53 => ?_)
  · have h41_ : β2 = true → β4 = false → ((ruleP A_n_.kind).ax) = true → v52 = (Iv A_n_.b) := hF.1
    have h37_ : (β2 = true → β4 = false → v48 = (Bo ((ruleP A_n_.kind).ax))) ∧ (¬ (β2 = true ∧ β4 = false) → v48 = undef) := hF.2.1; have h37u := h37_.2; replace h37_ := h37_.1
    clear hF
    refine doesG_gg (b := ((ruleP A_n_.kind).ax)) (c := β2 = true ∧ β4 = false) rfl (fun hc => ?_) (fun hc => ?_) (fun hc hg3 => ?_) (fun hc => ⟨fun hg1 hg2 hg3 => absurd ⟨⟨hg1, hg2⟩, hg3⟩ hc, Ext.refl _⟩)
    · obtain ⟨hg1, hg2⟩ := hc; obtain rfl := h37_ hg1 hg2; exact yld rfl rfl
    · obtain rfl := h37u hc; exact yldn rfl rfl
    obtain ⟨hg1, hg2⟩ := hc
    obtain rfl := h37_ hg1 hg2
    obtain rfl := h41_ hg1 hg2 hg3
    refine (does_call (args := #[(Iv A_n_.b), (Iv 0), (Iv 2)]) cal55 (evs rfl) (c_impl_in A_n_.b 0 2 _)).mono ?_; rintro v u' ⟨hx, hv⟩
    exact ⟨fun _ _ _ => hv, hx⟩
  refine RW_d _ rfl (fun v => by dsimp only [List.set]; try rfl) (fun u hu hF => ?_) (fun v54 => ?_)
  · have h37_ : (β2 = true → β4 = false → v48 = (Bo ((ruleP A_n_.kind).ax))) ∧ (¬ (β2 = true ∧ β4 = false) → v48 = undef) := hF.1; have h37u := h37_.2; replace h37_ := h37_.1
    have h42_ : β2 = true → β4 = false → ((ruleP A_n_.kind).ax) = true → v53 = (Bo (inI A_n_.b 0 2)) := hF.2.1
    have h34_ : (β2 = true → v45 = (Bo β4)) ∧ (¬ (β2 = true) → v45 = undef) := hF.2.2.1; have h34u := h34_.2; replace h34_ := h34_.1
    clear hF
    refine doesG_gg (b := β4) (c := β2 = true) rfl (fun hc => ?_) (fun hc => ?_) (fun hc hg2 => ?_) (fun hc => ⟨fun hg1 hg2 => absurd ⟨hg1, hg2⟩ hc, Ext.refl _⟩)
    · have hg1 := hc; obtain rfl := h34_ hg1; exact yld rfl rfl
    · obtain rfl := h34u hc; exact yldn rfl rfl
    have hg1 := hc
    obtain rfl := h34_ hg1
    skip
    obtain rfl := h37_ hg1 hg2
    replace h42_ := h42_ hg1 hg2
    refine (does_pick (b := ((ruleP A_n_.kind).ax)) (u := v53) (v := (Bo false)) (ev rfl) (ev rfl) (ev rfl)).mono ?_; rintro _ _ ⟨rfl, rfl⟩; refine ⟨fun _ _ => ?_, Ext.refl _⟩; rw [hβ5]; skip
    cases hbb : ((ruleP A_n_.kind).ax)
    all_goals first | (show _ = _; simp only [↓reduceIte, Bool.true_and, Bool.false_and, Bool.true_or, Bool.false_or, Bool.false_eq_true]; done) | (have e_ := h42_ hbb; subst e_; show _ = _; simp only [↓reduceIte, Bool.true_and, Bool.false_and, Bool.true_or, Bool.false_or, Bool.false_eq_true]; done) | rfl | (have e_ := h42_ hbb; subst e_; rfl) | (simp [hbb] at h42_ ⊢; first | done | rfl | (subst h42_; rfl) | simp_all) | (simp [hbb] at h42_ ⊢; done)
  refine RW_d _ rfl (fun v => by dsimp only [List.set]; try rfl) (fun u hu hF => ?_) (fun v55 => ?_)
  · have h34_ : (β2 = true → v45 = (Bo β4)) ∧ (¬ (β2 = true) → v45 = undef) := hF.1; have h34u := h34_.2; replace h34_ := h34_.1
    have h43_ : β2 = true → β4 = false → v54 = (Bo β5) := hF.2.1
    have h23_ : v34 = (Bo β2) := hF.2.2.1
    clear hF
    obtain rfl := h23_
    refine doesG_g (b := β2) rfl (yld rfl rfl) (fun hg1 => ?_) (fun hc => ⟨fun hg1 => absurd hg1 hc, Ext.refl _⟩)
    skip
    obtain rfl := h34_ hg1
    replace h43_ := h43_ hg1
    refine (does_pick (b := β4) (u := (Bo true)) (v := v54) (ev rfl) (ev rfl) (ev rfl)).mono ?_; rintro _ _ ⟨rfl, rfl⟩; refine ⟨fun _ => ?_, Ext.refl _⟩; skip
    cases hbb : β4
    all_goals first | (show _ = _; simp only [↓reduceIte, Bool.true_and, Bool.false_and, Bool.true_or, Bool.false_or, Bool.false_eq_true]; done) | (have e_ := h43_ hbb; subst e_; show _ = _; simp only [↓reduceIte, Bool.true_and, Bool.false_and, Bool.true_or, Bool.false_or, Bool.false_eq_true]; done) | rfl | (have e_ := h43_ hbb; subst e_; rfl) | (simp [hbb] at h43_ ⊢; first | done | rfl | (subst h43_; rfl) | simp_all) | (simp [hbb] at h43_ ⊢; done)
  refine RW_d _ rfl (fun v => by dsimp only [List.set]; try rfl) (fun u hu hF => ?_) (fun v56 => ?_)
  · have h23_ : v34 = (Bo β2) := hF.1
    have h44_ : β2 = true → v55 = (Bo (β4 || β5)) := hF.2.1
    clear hF
    refine doesG_un rfl ?_
    skip
    obtain rfl := h23_
    refine (does_pick (b := β2) (u := v55) (v := (Bo false)) (ev rfl) (ev rfl) (ev rfl)).mono ?_; rintro _ _ ⟨rfl, rfl⟩; refine ⟨?_, Ext.refl _⟩; skip
    cases hbb : β2
    all_goals first | (show _ = _; simp only [↓reduceIte, Bool.true_and, Bool.false_and, Bool.true_or, Bool.false_or, Bool.false_eq_true]; done) | (have e_ := h44_ hbb; subst e_; show _ = _; simp only [↓reduceIte, Bool.true_and, Bool.false_and, Bool.true_or, Bool.false_or, Bool.false_eq_true]; done) | rfl | (have e_ := h44_ hbb; subst e_; rfl) | (simp [hbb] at h44_ ⊢; first | done | rfl | (subst h44_; rfl) | simp_all) | (simp [hbb] at h44_ ⊢; done)
  refine RW_fin ?_; intro w57 E58 hP59
  obtain ⟨⟨⟨⟨⟨⟨⟨⟨⟨⟨⟨⟨⟨⟨⟨⟨⟨⟨⟨⟨⟨⟨⟨⟨⟨⟨⟨⟨⟨⟨⟨⟨⟨-, -⟩, -⟩, -⟩, -⟩, -⟩, -⟩, -⟩, -⟩, -⟩, -⟩, -⟩, -⟩, -⟩, -⟩, -⟩, -⟩, -⟩, -⟩, -⟩, -⟩, -⟩, -⟩, -⟩, -⟩, -⟩, -⟩, -⟩, -⟩, -⟩, -⟩, -⟩, -⟩, q60⟩ := hP59
  have X61 := Ext.gr X22 E58
  have q60 : v56 = (Bo (β2 && (β4 || β5))) := q60
  obtain rfl := q60
  show wpList _ _ _ _ (fr [_, _, _, _, _, _, _, _, _, _, _, _, _, _, _, _, _, _, _, _, _, _, _, _, _, _, _, _, _, _, _, _, _, _, _, _, _, _, _, _, _, _, _, _, _, _]) _
  refine q_is rfl rfl (does_assign (u := (Bo (β2 && (β4 || β5)))) (ev rfl)) (by dsimp only [List.set]; try rfl) ?_
  refine wpList_nil (hK23 _ _ ?_)
  refine wp_ret ?_
  refine ret_val (v := (Bo (β2 && (β4 || β5)))) (res_T rfl (slot rfl)) X61 ?_
  have x62 : (axOk A_n_) = (β2 && (β4 || β5)) := by first | with_reducible rfl | (simp only [axOk, ruleP, hβ1, hβ2, hβ3, hβ4, hβ5]; done) | (simp [axOk, ruleP, hβ1, hβ2, hβ3, hβ4, hβ5]; done) | rfl
  exact (by first | with_reducible rfl | rw [x62] | rfl)

/- impl.childrenOf -/
theorem c_impl_childrenOf (n__b : Nat) (n__o : Nat) (n_ : List Value) (A_n_ : NodeT) (w : World) (hc_n_ : Cells w n__b n__o n_) (hv_n_ : RNodeT w A_n_ n_) : Gives Try.prog 58 #[(Pt n__b n__o)] w (fun v w' => ∃ y_1 : Value, v = y_1 ∧ Hang w.heap.size w' (fun u => Sl RI 1 u y_1 (chL A_n_))) := by
  obtain ⟨y1, rfl, h2⟩ := hv_n_
  have hs5 := h2; have hs5l := Sl.len h2; obtain ⟨p3, q4, rfl⟩ := Sl.shape h2
  have hrc : 0 ≤ (ruleP A_n_.kind).ch ∧ (ruleP A_n_.kind).ch ≤ 2 := @rlCh_le A_n_.kind
  refine enter [(Pt n__b n__o), Ud, Ud, Ud, Ud, Ud, Ud, Ud, Ud, Ud, Ud, Ud, Ud, Ud, Ud, Ud, Ud, Ud, Ud, Ud, Ud, Ud, Ud, Ud, Ud] Try.func58 rfl Try.ntmps58 rfl ?_
  refine wp_seq_k fun K6 hK6 => ?_
  refine wp_region_lit ?_
  refine q_is rfl rfl (does_assign (u := (.slice none 0 0)) (ev rfl)) (by dsimp only [List.set]; try rfl) ?_
  refine wpList_nil (hK6 _ _ ?_)
  refine wp_seq_k fun K7 hK7 => ?_
  refine wp_region_lit ?_
  refine q_is rfl rfl (does_move (u := (Pt n__b n__o)) (ev rfl)) (by dsimp only [List.set]; try rfl) ?_
  refine q_is rfl rfl (does_nilCheck (ev rfl)) (by dsimp only [List.set]; try rfl) ?_
  refine q_is rfl rfl (does_fieldAddr (ev rfl) fa102_0) (by dsimp only [List.set]; try rfl) ?_
  refine q_is rfl rfl (does_load (u := (Iv A_n_.kind)) (ev rfl) Try.isAgg2 (Cells.at hc_n_ 0 rfl)) (by dsimp only [List.set]; try rfl) ?_
  refine seqd rfl rfl (does_call (args := #[(Iv A_n_.kind)]) cal85 (evs rfl) (c_impl_ruleOf A_n_.kind _)) ?_; rintro _ w9 ⟨E8, ⟨_, rfl, rfl⟩⟩
  have X10 := Ext.gr (Ext.refl w) E8
  show wpList _ _ _ _ (fr [_, _, _, _, _, _, _, _, _, _, _, _, _, _, _, _, _, _, _, _, _, _, _, _, _]) _
  refine q_is rfl rfl (does_move (u := (.tuple #[(.agg #[(Iv ((ruleP A_n_.kind).num)), (Iv ((ruleP A_n_.kind).ch)), (Bo ((ruleP A_n_.kind).ax)), (Iv ((ruleP A_n_.kind).sg))]), (Bo (rlOk A_n_.kind))])) (ev rfl)) (by dsimp only [List.set]; try rfl) ?_
  refine q_is rfl rfl (does_extract (vs := #[(.agg #[(Iv ((ruleP A_n_.kind).num)), (Iv ((ruleP A_n_.kind).ch)), (Bo ((ruleP A_n_.kind).ax)), (Iv ((ruleP A_n_.kind).sg))]), (Bo (rlOk A_n_.kind))]) (u := (.agg #[(Iv ((ruleP A_n_.kind).num)), (Iv ((ruleP A_n_.kind).ch)), (Bo ((ruleP A_n_.kind).ax)), (Iv ((ruleP A_n_.kind).sg))])) (ev rfl) rfl) (by dsimp only [List.set]; try rfl) ?_
  refine q_is rfl rfl (does_extract (vs := #[(.agg #[(Iv ((ruleP A_n_.kind).num)), (Iv ((ruleP A_n_.kind).ch)), (Bo ((ruleP A_n_.kind).ax)), (Iv ((ruleP A_n_.kind).sg))]), (Bo (rlOk A_n_.kind))]) (u := (Bo (rlOk A_n_.kind))) (ev rfl) rfl) (by dsimp only [List.set]; try rfl) ?_
  refine seqd rfl rfl (does_alloc z141) ?_; rintro _ w15 ⟨b11, rfl, hb12, hB13, E14⟩
  have n16 : n__b < b11 := Nat.lt_of_lt_of_le (cell_lt (Cells.at (hc_n_.ext X10) 0 rfl)) hb12
  have g17 : w.heap.size ≤ b11 := Nat.le_trans (Below.size X10) hb12
  change Blk _ _ [(Iv 0), (Iv 0), (Bo false), (Iv 0)] at hB13
  have X18 := Ext.gr X10 E14
  show wpList _ _ _ _ (fr [_, _, _, _, _, _, _, _, _, _, _, _, _, _, _, _, _, _, _, _, _, _, _, _, _]) _
  refine seqn rfl rfl (does_store (n := 4) (cs := [(Iv 0), (Iv 0), (Bo false), (Iv 0)]) (u := (.agg #[(Iv ((ruleP A_n_.kind).num)), (Iv ((ruleP A_n_.kind).ch)), (Bo ((ruleP A_n_.kind).ax)), (Iv ((ruleP A_n_.kind).sg))])) (ev rfl) (ev rfl) Try.sizeOf141 rfl hB13 (Nat.le_of_ble_eq_true rfl) rfl) ?_; rintro _ w21 ⟨rfl, W19, hB20⟩
  change Blk _ _ [(Iv ((ruleP A_n_.kind).num)), (Iv ((ruleP A_n_.kind).ch)), (Bo ((ruleP A_n_.kind).ax)), (Iv ((ruleP A_n_.kind).sg))] at hB20
  have X22 := Below.wr X18 W19 g17
  refine q_is rfl rfl (does_assign (u := (Bo (rlOk A_n_.kind))) (ev rfl)) (by dsimp only [List.set]; try rfl) ?_
  refine wpList_nil (hK7 _ _ ?_)
  refine wp_seq_k fun K23 hK23 => ?_
  refine region_draw (
    [Fact.pure [] (fun v => v = (Pt n__b n__o)),
    Fact.pure [13] (fun v => v = (Pt n__b n__o)),
    Fact.pure [14] (fun v => v = (Pt n__b (n__o + 1))),
    Fact.pure [15] (fun v => v = (Iv A_n_.a)),
    Fact.pure [] (fun v => v = (Pt n__b n__o)),
    Fact.pure [17] (fun v => v = (Pt n__b n__o)),
    Fact.pure [18] (fun v => v = (Pt n__b (n__o + 2))),
    Fact.pure [19] (fun v => v = (Iv A_n_.b)),
    Fact.mem [16, 20] (fun v w' => ∃ b : Nat, v = .slice (some ⟨b, 0, none⟩) 2 2 ∧ w21.heap.size ≤ b ∧ Blk w' b [(Iv A_n_.a), (Iv A_n_.b)]) (by rintro v w1 w2 hx ⟨b, rfl, hb, hB⟩; exact ⟨b, rfl, hb, (hB.ext hx)⟩),
    Fact.pure [] (fun v => v = (Pt b11 1)),
    Fact.pure [22] (fun v => v = (Iv ((ruleP A_n_.kind).ch))),
    Fact.mem [21, 23] (fun v w' => ∃ y_1 : Value, v = y_1 ∧ Hang w21.heap.size w' (fun u => Sl RI 1 u y_1 ([A_n_.a, A_n_.b].take ((ruleP A_n_.kind).ch).toNat))) (by rintro v w1 w2 hx ⟨z1, rfl, k0⟩; exact ⟨_, rfl, (k0.ext hx)⟩)]) mixed (by kernel_rfl) (by intro _ _ d _ _ h; cases d <;> exact h) ?_
  obtain ⟨w24, hw26⟩ : ∃ w', w' = World.drew w21 := ⟨_, rfl⟩; rw [← hw26]; have E25 : Ext w21 w24 := by rw [hw26]; exact Ext.draw _
  clear hw26
  have X27 := Ext.gr X22 E25
  refine RW_d _ rfl (fun v => by dsimp only [List.set]; try rfl) (fun u hu hF => ?_) (fun v28 => ?_)
  · clear hF
    refine doesG_un rfl ?_
    refine (does_move (u := (Pt n__b n__o)) (ev rfl)).mono ?_; rintro _ _ ⟨rfl, rfl⟩
    exact ⟨rfl, Ext.refl _⟩
  refine RW_d _ rfl (fun v => by dsimp only [List.set]; try rfl) (fun u hu hF => ?_) (fun v29 => ?_)
  · have h13_ : v28 = (Pt n__b n__o) := hF.1
    clear hF
    refine doesG_un rfl ?_
    obtain rfl := h13_
    refine (does_nilCheck (ev rfl)).mono ?_; rintro _ _ ⟨rfl, rfl⟩
    exact ⟨rfl, Ext.refl _⟩
  refine RW_d _ rfl (fun v => by dsimp only [List.set]; try rfl) (fun u hu hF => ?_) (fun v30 => ?_)
  · have h14_ : v29 = (Pt n__b n__o) := hF.1
    clear hF
    refine doesG_un rfl ?_
    obtain rfl := h14_
    refine (does_fieldAddr (ev rfl) fa102_1).mono ?_; rintro _ _ ⟨rfl, rfl⟩
    exact ⟨rfl, Ext.refl _⟩
  refine RW_d _ rfl (fun v => by dsimp only [List.set]; try rfl) (fun u hu hF => ?_) (fun v31 => ?_)
  · have h15_ : v30 = (Pt n__b (n__o + 1)) := hF.1
    clear hF
    refine doesG_un rfl ?_
    obtain rfl := h15_
    refine (does_load (u := (Iv A_n_.a)) (ev rfl) Try.isAgg2 (Cells.at ((hc_n_.ext (Ext.gr X22 E25)).ext hu) 1 rfl)).mono ?_; rintro _ _ ⟨rfl, rfl⟩
    exact ⟨rfl, Ext.refl _⟩
  refine RW_d _ rfl (fun v => by dsimp only [List.set]; try rfl) (fun u hu hF => ?_) (fun v32 => ?_)
  · clear hF
    refine doesG_un rfl ?_
    refine (does_move (u := (Pt n__b n__o)) (ev rfl)).mono ?_; rintro _ _ ⟨rfl, rfl⟩
    exact ⟨rfl, Ext.refl _⟩
  refine RW_d _ rfl (fun v => by dsimp only [List.set]; try rfl) (fun u hu hF => ?_) (fun v33 => ?_)
  · have h17_ : v32 = (Pt n__b n__o) := hF.1
    clear hF
    refine doesG_un rfl ?_
    obtain rfl := h17_
    refine (does_nilCheck (ev rfl)).mono ?_; rintro _ _ ⟨rfl, rfl⟩
    exact ⟨rfl, Ext.refl _⟩
  refine RW_d _ rfl (fun v => by dsimp only [List.set]; try rfl) (fun u hu hF => ?_) (fun v34 => ?_)
  · have h18_ : v33 = (Pt n__b n__o) := hF.1
    clear hF
    refine doesG_un rfl ?_
    obtain rfl := h18_
    refine (does_fieldAddr (ev rfl) fa102_2).mono ?_; rintro _ _ ⟨rfl, rfl⟩
    exact ⟨rfl, Ext.refl _⟩
  refine RW_d _ rfl (fun v => by dsimp only [List.set]; try rfl) (fun u hu hF => ?_) (fun v35 => ?_)
  · have h19_ : v34 = (Pt n__b (n__o + 2)) := hF.1
    clear hF
    refine doesG_un rfl ?_
    obtain rfl := h19_
    refine (does_load (u := (Iv A_n_.b)) (ev rfl) Try.isAgg2 (Cells.at ((hc_n_.ext (Ext.gr X22 E25)).ext hu) 2 rfl)).mono ?_; rintro _ _ ⟨rfl, rfl⟩
    exact ⟨rfl, Ext.refl _⟩
  refine RW_d _ rfl (fun v => by dsimp only [List.set]; try rfl) (fun u hu hF => ?_) (fun v36 => ?_)
  · have h16_ : v31 = (Iv A_n_.a) := hF.1
    have h20_ : v35 = (Iv A_n_.b) := hF.2.1
    clear hF
    refine doesG_un rfl ?_
    obtain rfl := h16_
    obtain rfl := h20_
    refine (does_buildSlice (e := 2) (parts' := [(0, (Iv A_n_.a)), (1, (Iv A_n_.b))]) (cells := [(Iv A_n_.a), (Iv A_n_.b)]) (evp rfl) (fun _ => by kernel_rfl)).mono ?_; rintro _ _ ⟨b, rfl, hb, hB, hx⟩
    exact ⟨⟨b, rfl, Nat.le_trans (Nat.le_trans (Below.size E25) (Below.size hu)) hb, hB⟩, hx⟩
  refine RW_d _ rfl (fun v => by dsimp only [List.set]; try rfl) (fun u hu hF => ?_) (fun v37 => ?_)
  · clear hF
    refine doesG_un rfl ?_
    refine (does_fieldAddr (ev rfl) fa141_1).mono ?_; rintro _ _ ⟨rfl, rfl⟩
    exact ⟨rfl, Ext.refl _⟩
  refine RW_d _ rfl (fun v => by dsimp only [List.set]; try rfl) (fun u hu hF => ?_) (fun v38 => ?_)
  · have h22_ : v37 = (Pt b11 1) := hF.1
    clear hF
    refine doesG_un rfl ?_
    obtain rfl := h22_
    refine (does_load (u := (Iv ((ruleP A_n_.kind).ch))) (ev rfl) Try.isAgg3 (Cells.at (Blk.cells ((hB20.ext E25).ext hu)) 1 rfl)).mono ?_; rintro _ _ ⟨rfl, rfl⟩
    exact ⟨rfl, Ext.refl _⟩
  refine RW_d _ rfl (fun v => by dsimp only [List.set]; try rfl) (fun u hu hF => ?_) (fun v39 => ?_)
  · have h21_ : ∃ b : Nat, v36 = .slice (some ⟨b, 0, none⟩) 2 2 ∧ w21.heap.size ≤ b ∧ Blk u b [(Iv A_n_.a), (Iv A_n_.b)] := hF.1
    have h23_ : v38 = (Iv ((ruleP A_n_.kind).ch)) := hF.2.1
    clear hF
    refine doesG_un rfl ?_
    obtain ⟨b21_, rfl, hb21_, hB21_⟩ := h21_
    obtain rfl := h23_
    refine (does_sliceH (R := RI) (k := 1) (xs := [A_n_.a, A_n_.b]) (h := ((ruleP A_n_.kind).ch)) (B := w21.heap.size) Try.underlying100 Try.sizeOf2 (ev rfl) (ev rfl) (fun u hu => Sl_lit2 (Blk.hang hB21_ hb21_ u hu) rfl rfl) (by omega) (by first | omega | (simp only [List.length_cons, List.length_nil]; omega))).mono ?_; rintro v u' ⟨hx, y, hv, hh⟩
    exact ⟨⟨y, hv, hh⟩, hx⟩
  refine RW_fin ?_; intro w40 E41 hP42
  obtain ⟨⟨⟨⟨⟨⟨⟨⟨⟨⟨⟨⟨-, -⟩, -⟩, -⟩, -⟩, -⟩, -⟩, -⟩, -⟩, -⟩, -⟩, -⟩, q43⟩ := hP42
  have X44 := Ext.gr X27 E41
  have q43 : ∃ y_1 : Value, v39 = y_1 ∧ Hang w21.heap.size w40 (fun u => Sl RI 1 u y_1 ([A_n_.a, A_n_.b].take ((ruleP A_n_.kind).ch).toNat)) := q43
  obtain ⟨y46, rfl, hh45⟩ := q43
  have n47 : b11 < w21.heap.size := Blk.lt hB20
  obtain ⟨p48, q49, rfl⟩ := Sl.shape hh45.get
  show wpList _ _ _ _ (fr [_, _, _, _, _, _, _, _, _, _, _, _, _, _, _, _, _, _, _, _, _, _, _, _, _]) _
  refine q_is rfl rfl (does_assign (u := (.slice p48 (([A_n_.a, A_n_.b].take ((ruleP A_n_.kind).ch).toNat).length) q49)) (ev rfl)) (by dsimp only [List.set]; try rfl) ?_
  refine wpList_nil (hK23 _ _ ?_)
  refine wp_ret ?_
  refine ret_val (v := (.slice p48 (([A_n_.a, A_n_.b].take ((ruleP A_n_.kind).ch).toNat).length) q49)) (res_T rfl (slot rfl)) X44 ?_
  have x50 : ([A_n_.a, A_n_.b].take ((ruleP A_n_.kind).ch).toNat) = (chL A_n_) := by first | with_reducible rfl | (simp only [chL, ruleP]; done) | (simp [chL, ruleP]; done) | rfl
  exact ⟨(.slice p48 (([A_n_.a, A_n_.b].take ((ruleP A_n_.kind).ch).toNat).length) q49), rfl, (Hang.castL (hh45.le (Below.size (Below.wr (Ext.gr (Ext.gr (Ext.refl _) E8) E14) W19 g17))) x50)⟩

/- slices.IndexFunc[[]int,int] -/
theorem c_slices_IndexFunc_int_int (xs : Value) (L_xs : List Int) (f : Value) (pr_f : Int → Bool) (w : World) (hv_xs : Sl RI 1 w xs L_xs) (hv_f : ∃ fi fst cap, f = .func (.func fi) fst cap ∧ (∀ args w, (callFunc fi args).run Try.prog w = .ok (.enter fi args) w) ∧ ∀ (n0 : Int) u, Ext w u → Gives Try.prog fi (fst ++ #[.int .i64 n0] ++ cap) u (fun v _ => v = .bool (pr_f n0))) : Gives Try.prog 88 #[xs, f] w (fun v w' => v = (Iv (findI pr_f L_xs))) := by
  have hlen_xs := Sl.len hv_xs; obtain ⟨p_xs, q_xs, rfl⟩ := Sl.shape hv_xs
  obtain ⟨f_f, s_f, c_f, rfl, hcal_f, hg_f⟩ := hv_f
  refine enter [(.slice p_xs L_xs.length q_xs), (.func (.func f_f) s_f c_f), Ud, Ud, Ud, Ud, Ud, Ud, Ud, Ud, Ud, Ud, Ud, Ud, Ud, Ud, Ud, Ud, Ud] Try.func88 rfl Try.ntmps88 rfl ?_
  refine wp_seq_k fun K1 hK1 => ?_
  refine wp_region_lit ?_
  refine q_is (l' := [(.slice p_xs L_xs.length q_xs), (.func (.func f_f) s_f c_f), Ud, Ud, (Iv 0), Ud, Ud, Ud, Ud, Ud, Ud, Ud, Ud, Ud, Ud, Ud, Ud, Ud, Ud]) rfl rfl (does_assign (u := (Iv 0)) (ev rfl)) rfl ?_
  refine wpList_nil (hK1 _ _ ?_)
  refine wp_seq_k fun K2 hK2 => ?_
  refine wp_seq_k fun K3 hK3 => ?_
  refine wp_region_lit ?_
  refine q_is (l' := [(.slice p_xs L_xs.length q_xs), (.func (.func f_f) s_f c_f), Ud, Ud, (Iv 0), Ud, (.slice p_xs L_xs.length q_xs), Ud, Ud, Ud, Ud, Ud, Ud, Ud, Ud, Ud, Ud, Ud, Ud]) rfl rfl (does_move (u := (.slice p_xs L_xs.length q_xs)) (ev rfl)) rfl ?_
  refine q_is (l' := [(.slice p_xs L_xs.length q_xs), (.func (.func f_f) s_f c_f), Ud, Ud, (Iv 0), Ud, (.slice p_xs L_xs.length q_xs), (Iv (L_xs.length : Int)), Ud, Ud, Ud, Ud, Ud, Ud, Ud, Ud, Ud, Ud, Ud]) rfl rfl (does_len_slice Try.underlying108 (ev rfl)) rfl ?_
  refine q_is (l' := [(.slice p_xs L_xs.length q_xs), (.func (.func f_f) s_f c_f), Ud, Ud, (Iv 0), Ud, (.slice p_xs L_xs.length q_xs), (Iv (L_xs.length : Int)), (Iv 0), Ud, Ud, Ud, Ud, Ud, Ud, Ud, Ud, Ud, Ud]) rfl rfl (does_move (u := (Iv 0)) (ev rfl)) rfl ?_
  refine wpList_nil (hK3 _ _ ?_)
  refine wp_block ?_
  refine loop_ghost (σ := Nat) (fun k a w' => ∃ u4 : Nat → Value, a = fr [(.slice p_xs L_xs.length q_xs), (.func (.func f_f) s_f c_f), Ud, Ud, (u4 4), (u4 5), (.slice p_xs L_xs.length q_xs), (Iv (L_xs.length : Int)), (Iv (k : Int)), (u4 9), (u4 10), (u4 11), (u4 12), (u4 13), (u4 14), (u4 15), (u4 16), (u4 17), (u4 18)] ∧ Ext w w' ∧ (k ≤ L_xs.length ∧ NoneTo pr_f L_xs k)) (fun k => L_xs.length - k) 0 ?_ ?_
  · refine ⟨fun t => (([(.slice p_xs L_xs.length q_xs), (.func (.func f_f) s_f c_f), Ud, Ud, (Iv 0), Ud, (.slice p_xs L_xs.length q_xs), (Iv (L_xs.length : Int)), (Iv 0), Ud, Ud, Ud, Ud, Ud, Ud, Ud, Ud, Ud, Ud] : List Value)[t]?).getD undef, rfl, Ext.refl _, ?_⟩
    exact ⟨Nat.zero_le _, NoneTo.zero⟩
  · rintro k a w5 ⟨u4, rfl, E6, ⟨hk, hno⟩⟩
    have X8 := Ext.gr (Ext.refl w) E6
    refine wp_seq_k fun K9 hK9 => ?_
    refine wp_region_lit ?_
    refine q_is (l' := [(.slice p_xs L_xs.length q_xs), (.func (.func f_f) s_f c_f), Ud, Ud, (u4 4), (u4 5), (.slice p_xs L_xs.length q_xs), (Iv (L_xs.length : Int)), (Iv (k : Int)), (Bo (icmp .lss (k : Int) (L_xs.length : Int))), (u4 10), (u4 11), (u4 12), (u4 13), (u4 14), (u4 15), (u4 16), (u4 17), (u4 18)]) rfl rfl (does_icmp (p := (k : Int)) (q := (L_xs.length : Int)) (.inr (.inr (.inl rfl))) (ev rfl) (ev rfl)) rfl ?_
    refine wpList_nil (hK9 _ _ ?_)
    refine wp_seq_k fun K10 hK10 => ?_
    refine wp_cond_split (t := icmp .lss (k : Int) (L_xs.length : Int)) (ev rfl) (fun c11 => ?_) (fun c11 => ?_)
    · have c11' := c11
      (try simp only [icmp, Bool.and_eq_true, Bool.or_eq_true, Bool.and_eq_false_iff, Bool.or_eq_false_iff, Bool.not_eq_true', Bool.not_eq_false', decide_eq_true_eq, decide_eq_false_iff_not, beq_iff_eq, bne_iff_ne, beq_eq_false_iff_ne, bne_eq_false_iff_eq] at c11')
      refine wp_skip (hK10 _ _ ?_)
      refine wp_seq_k fun K12 hK12 => ?_
      refine wp_block ?_
      refine wp_seq_k fun K13 hK13 => ?_
      refine wp_region_lit ?_
      refine q_is (l' := [(.slice p_xs L_xs.length q_xs), (.func (.func f_f) s_f c_f), Ud, Ud, (u4 4), (u4 5), (.slice p_xs L_xs.length q_xs), (Iv (L_xs.length : Int)), (Iv (k : Int)), (Bo (icmp .lss (k : Int) (L_xs.length : Int))), (Iv (k : Int)), (u4 11), (u4 12), (u4 13), (u4 14), (u4 15), (u4 16), (u4 17), (u4 18)]) rfl rfl (does_move (u := (Iv (k : Int))) (ev rfl)) rfl ?_
      refine q_is (l' := [(.slice p_xs L_xs.length q_xs), (.func (.func f_f) s_f c_f), Ud, Ud, (u4 4), (Iv (k : Int)), (.slice p_xs L_xs.length q_xs), (Iv (L_xs.length : Int)), (Iv (k : Int)), (Bo (icmp .lss (k : Int) (L_xs.length : Int))), (Iv (k : Int)), (u4 11), (u4 12), (u4 13), (u4 14), (u4 15), (u4 16), (u4 17), (u4 18)]) rfl rfl (does_assign (u := (Iv (k : Int))) (ev rfl)) rfl ?_
      refine wpList_nil (hK13 _ _ ?_)
      refine wp_seq_k fun K14 hK14 => ?_
      refine wp_region_lit ?_
      refine q_is (l' := [(.slice p_xs L_xs.length q_xs), (.func (.func f_f) s_f c_f), Ud, Ud, (u4 4), (Iv (k : Int)), (.slice p_xs L_xs.length q_xs), (Iv (L_xs.length : Int)), (Iv (k : Int)), (Bo (icmp .lss (k : Int) (L_xs.length : Int))), (Iv (k : Int)), (.func (.func f_f) s_f c_f), (u4 12), (u4 13), (u4 14), (u4 15), (u4 16), (u4 17), (u4 18)]) rfl rfl (does_move (u := (.func (.func f_f) s_f c_f)) (ev rfl)) rfl ?_
      refine q_is (l' := [(.slice p_xs L_xs.length q_xs), (.func (.func f_f) s_f c_f), Ud, Ud, (u4 4), (Iv (k : Int)), (.slice p_xs L_xs.length q_xs), (Iv (L_xs.length : Int)), (Iv (k : Int)), (Bo (icmp .lss (k : Int) (L_xs.length : Int))), (Iv (k : Int)), (.func (.func f_f) s_f c_f), (.slice p_xs L_xs.length q_xs), (u4 13), (u4 14), (u4 15), (u4 16), (u4 17), (u4 18)]) rfl rfl (does_move (u := (.slice p_xs L_xs.length q_xs)) (ev rfl)) rfl ?_
      refine q_is (l' := [(.slice p_xs L_xs.length q_xs), (.func (.func f_f) s_f c_f), Ud, Ud, (u4 4), (Iv (k : Int)), (.slice p_xs L_xs.length q_xs), (Iv (L_xs.length : Int)), (Iv (k : Int)), (Bo (icmp .lss (k : Int) (L_xs.length : Int))), (Iv (k : Int)), (.func (.func f_f) s_f c_f), (.slice p_xs L_xs.length q_xs), (Iv (k : Int)), (u4 14), (u4 15), (u4 16), (u4 17), (u4 18)]) rfl rfl (does_move (u := (Iv (k : Int))) (ev rfl)) rfl ?_
      obtain ⟨el1, hel1⟩ : ∃ e, L_xs[k]? = some e := ⟨_, List.getElem?_eq_getElem (by omega)⟩
      refine seqd rfl rfl (does_indexSl (R := RI) (i := (k : Int)) (xs := L_xs) (e := el1) Try.underlying108 Try.sizeOf3 (ev rfl) (ev rfl) (Sl.ext hv_xs RI.mono X8) (by omega) hel1) ?_; rintro _ w5 ⟨b15, o16, _, rfl, hc18, rfl, rfl⟩
      show wpList _ _ _ _ (fr [(.slice p_xs L_xs.length q_xs), (.func (.func f_f) s_f c_f), Ud, Ud, (u4 4), (Iv (k : Int)), (.slice p_xs L_xs.length q_xs), (Iv (L_xs.length : Int)), (Iv (k : Int)), (Bo (icmp .lss (k : Int) (L_xs.length : Int))), (Iv (k : Int)), (.func (.func f_f) s_f c_f), (.slice p_xs L_xs.length q_xs), (Iv (k : Int)), (Pt b15 o16), (u4 15), (u4 16), (u4 17), (u4 18)]) _
      refine q_is (l' := [(.slice p_xs L_xs.length q_xs), (.func (.func f_f) s_f c_f), Ud, Ud, (u4 4), (Iv (k : Int)), (.slice p_xs L_xs.length q_xs), (Iv (L_xs.length : Int)), (Iv (k : Int)), (Bo (icmp .lss (k : Int) (L_xs.length : Int))), (Iv (k : Int)), (.func (.func f_f) s_f c_f), (.slice p_xs L_xs.length q_xs), (Iv (k : Int)), (Pt b15 o16), (Iv el1), (u4 16), (u4 17), (u4 18)]) rfl rfl (does_load (u := (Iv el1)) (ev rfl) Try.isAgg3 (Cells.at hc18 0 rfl)) rfl ?_
      refine seqd rfl rfl (does_callf (args := #[(Iv el1)]) (ev rfl) hcal_f (evs rfl) (hg_f el1 _ X8 )) ?_; rintro _ w20 ⟨E19, rfl⟩
      have X21 := Ext.gr X8 E19
      show wpList _ _ _ _ (fr [(.slice p_xs L_xs.length q_xs), (.func (.func f_f) s_f c_f), Ud, Ud, (u4 4), (Iv (k : Int)), (.slice p_xs L_xs.length q_xs), (Iv (L_xs.length : Int)), (Iv (k : Int)), (Bo (icmp .lss (k : Int) (L_xs.length : Int))), (Iv (k : Int)), (.func (.func f_f) s_f c_f), (.slice p_xs L_xs.length q_xs), (Iv (k : Int)), (Pt b15 o16), (Iv el1), (Bo (pr_f el1)), (u4 17), (u4 18)]) _
      refine wpList_nil (hK14 _ _ ?_)
      refine wp_cond_split (t := pr_f el1) (ev rfl) (fun c22 => ?_) (fun c22 => ?_)
      · have c22' := c22
        refine wp_seq_k fun K23 hK23 => ?_
        refine wp_region_lit ?_
        refine q_is (l' := [(.slice p_xs L_xs.length q_xs), (.func (.func f_f) s_f c_f), Ud, Ud, (u4 4), (Iv (k : Int)), (.slice p_xs L_xs.length q_xs), (Iv (L_xs.length : Int)), (Iv (k : Int)), (Bo (icmp .lss (k : Int) (L_xs.length : Int))), (Iv (k : Int)), (.func (.func f_f) s_f c_f), (.slice p_xs L_xs.length q_xs), (Iv (k : Int)), (Pt b15 o16), (Iv el1), (Bo (pr_f el1)), (Iv (k : Int)), (u4 18)]) rfl rfl (does_move (u := (Iv (k : Int))) (ev rfl)) rfl ?_
        refine q_is (l' := [(.slice p_xs L_xs.length q_xs), (.func (.func f_f) s_f c_f), Ud, Ud, (Iv (k : Int)), (Iv (k : Int)), (.slice p_xs L_xs.length q_xs), (Iv (L_xs.length : Int)), (Iv (k : Int)), (Bo (icmp .lss (k : Int) (L_xs.length : Int))), (Iv (k : Int)), (.func (.func f_f) s_f c_f), (.slice p_xs L_xs.length q_xs), (Iv (k : Int)), (Pt b15 o16), (Iv el1), (Bo (pr_f el1)), (Iv (k : Int)), (u4 18)]) rfl rfl (does_assign (u := (Iv (k : Int))) (ev rfl)) rfl ?_
        refine wpList_nil (hK23 _ _ ?_)
        refine wp_ret ?_
        dsimp only [Exit.then, Exit.inBlock]
        refine ret_val (v := (Iv (k : Int))) (res_T rfl (slot rfl)) X21 ?_
        try simp only [hel1] at c11 c22
        have x24 : (findI pr_f L_xs : Int) = (k : Int) := by first | exact findI_at hno (by assumption) (by simp_all) | exact findI_none hno (by omega)
        exact (by first | with_reducible rfl | rw [x24] | rfl)
      have c22' := c22
      refine wp_skip (hK12 _ _ ?_)
      refine wp_region_lit ?_
      refine q_is (l' := [(.slice p_xs L_xs.length q_xs), (.func (.func f_f) s_f c_f), Ud, Ud, (u4 4), (Iv (k : Int)), (.slice p_xs L_xs.length q_xs), (Iv (L_xs.length : Int)), (Iv (k : Int)), (Bo (icmp .lss (k : Int) (L_xs.length : Int))), (Iv (k : Int)), (.func (.func f_f) s_f c_f), (.slice p_xs L_xs.length q_xs), (Iv (k : Int)), (Pt b15 o16), (Iv el1), (Bo (pr_f el1)), (u4 17), (Iv ((k : Int) + 1))]) rfl rfl (does_iarith (p := (k : Int)) (q := 1) (r := (k : Int) + 1) (ev rfl) (ev rfl) (.inl ⟨rfl, (in_i64 (by omega) (by omega)).symm⟩)) rfl ?_
      refine q_is (l' := [(.slice p_xs L_xs.length q_xs), (.func (.func f_f) s_f c_f), Ud, Ud, (u4 4), (Iv (k : Int)), (.slice p_xs L_xs.length q_xs), (Iv (L_xs.length : Int)), (Iv ((k : Int) + 1)), (Bo (icmp .lss (k : Int) (L_xs.length : Int))), (Iv (k : Int)), (.func (.func f_f) s_f c_f), (.slice p_xs L_xs.length q_xs), (Iv (k : Int)), (Pt b15 o16), (Iv el1), (Bo (pr_f el1)), (u4 17), (Iv ((k : Int) + 1))]) rfl rfl (does_move (u := (Iv ((k : Int) + 1))) (ev rfl)) rfl ?_
      refine wpList_nil ?_
      refine ⟨k + 1, ⟨fun t => (([(.slice p_xs L_xs.length q_xs), (.func (.func f_f) s_f c_f), Ud, Ud, (u4 4), (Iv (k : Int)), (.slice p_xs L_xs.length q_xs), (Iv (L_xs.length : Int)), (Iv ((k : Int) + 1)), (Bo (icmp .lss (k : Int) (L_xs.length : Int))), (Iv (k : Int)), (.func (.func f_f) s_f c_f), (.slice p_xs L_xs.length q_xs), (Iv (k : Int)), (Pt b15 o16), (Iv el1), (Bo (pr_f el1)), (u4 17), (Iv ((k : Int) + 1))] : List Value)[t]?).getD undef, ?_, (Ext.gr E6 E19), ?_⟩, ?_⟩
      · first | rfl | (simp only [Int.natCast_add, Int.natCast_one]; rfl)
      · exact ⟨by omega, NoneTo.step hno (by assumption) (by simp_all)⟩
      · omega
    have c11' := c11
    (try simp only [icmp, Bool.and_eq_true, Bool.or_eq_true, Bool.and_eq_false_iff, Bool.or_eq_false_iff, Bool.not_eq_true', Bool.not_eq_false', decide_eq_true_eq, decide_eq_false_iff_not, beq_iff_eq, bne_iff_ne, beq_eq_false_iff_ne, bne_eq_false_iff_eq] at c11')
    refine wp_exit ?_
    refine hK2 _ _ ?_
    refine wp_seq_k fun K25 hK25 => ?_
    refine wp_region_lit ?_
    refine q_is (l' := [(.slice p_xs L_xs.length q_xs), (.func (.func f_f) s_f c_f), Ud, Ud, (Iv (-1)), (u4 5), (.slice p_xs L_xs.length q_xs), (Iv (L_xs.length : Int)), (Iv (k : Int)), (Bo (icmp .lss (k : Int) (L_xs.length : Int))), (u4 10), (u4 11), (u4 12), (u4 13), (u4 14), (u4 15), (u4 16), (u4 17), (u4 18)]) rfl rfl (does_assign (u := (Iv (-1))) (ev rfl)) rfl ?_
    refine wpList_nil (hK25 _ _ ?_)
    refine wp_ret ?_
    refine ret_val (v := (Iv (-1))) (res_T rfl (slot rfl)) X8 ?_
    have x26 : (findI pr_f L_xs : Int) = (-1) := by first | exact findI_at hno (by assumption) (by simp_all) | exact findI_none hno (by omega)
    exact (by first | with_reducible rfl | rw [x26] | rfl)

/- slices.ContainsFunc[[]int,int] -/
theorem c_slices_ContainsFunc_int_int (xs : Value) (L_xs : List Int) (f : Value) (pr_f : Int → Bool) (w : World) (hv_xs : Sl RI 1 w xs L_xs) (hv_f : ∃ fi fst cap, f = .func (.func fi) fst cap ∧ (∀ args w, (callFunc fi args).run Try.prog w = .ok (.enter fi args) w) ∧ ∀ (n0 : Int) u, Ext w u → Gives Try.prog fi (fst ++ #[.int .i64 n0] ++ cap) u (fun v _ => v = .bool (pr_f n0))) : Gives Try.prog 59 #[xs, f] w (fun v w' => v = (Bo (L_xs.any pr_f))) := by
  have hlen_xs := Sl.len hv_xs; obtain ⟨p_xs, q_xs, rfl⟩ := Sl.shape hv_xs
  obtain ⟨f_f, s_f, c_f, rfl, hcal_f, hg_f⟩ := hv_f
  refine enter [(.slice p_xs L_xs.length q_xs), (.func (.func f_f) s_f c_f), Ud, Ud, Ud, Ud, Ud, Ud, Ud] Try.func59 rfl Try.ntmps59 rfl ?_
  refine wp_seq_k fun K1 hK1 => ?_
  refine wp_region_lit ?_
  refine q_is (l' := [(.slice p_xs L_xs.length q_xs), (.func (.func f_f) s_f c_f), Ud, Ud, (Bo false), Ud, Ud, Ud, Ud]) rfl rfl (does_assign (u := (Bo false)) (ev rfl)) rfl ?_
  refine wpList_nil (hK1 _ _ ?_)
  refine wp_seq_k fun K2 hK2 => ?_
  refine wp_region_lit ?_
  refine q_is (l' := [(.slice p_xs L_xs.length q_xs), (.func (.func f_f) s_f c_f), Ud, Ud, (Bo false), (.slice p_xs L_xs.length q_xs), Ud, Ud, Ud]) rfl rfl (does_move (u := (.slice p_xs L_xs.length q_xs)) (ev rfl)) rfl ?_
  refine q_is (l' := [(.slice p_xs L_xs.length q_xs), (.func (.func f_f) s_f c_f), Ud, Ud, (Bo false), (.slice p_xs L_xs.length q_xs), (.func (.func f_f) s_f c_f), Ud, Ud]) rfl rfl (does_move (u := (.func (.func f_f) s_f c_f)) (ev rfl)) rfl ?_
  refine seqd rfl rfl (does_call (args := #[(.slice p_xs L_xs.length q_xs), (.func (.func f_f) s_f c_f)]) cal88 (evs rfl) (c_slices_IndexFunc_int_int (.slice p_xs L_xs.length q_xs) L_xs (.func (.func f_f) s_f c_f) pr_f _ hv_xs ⟨_, _, _, rfl, hcal_f, fun n0 u hu'  => hg_f n0 u (Ext.gr (Ext.refl w) hu') ⟩)) ?_; rintro _ w4 ⟨E3, rfl⟩
  have X5 := Ext.gr (Ext.refl w) E3
  show wpList _ _ _ _ (fr [(.slice p_xs L_xs.length q_xs), (.func (.func f_f) s_f c_f), Ud, Ud, (Bo false), (.slice p_xs L_xs.length q_xs), (.func (.func f_f) s_f c_f), (Iv (findI pr_f L_xs)), Ud]) _
  refine q_is (l' := [(.slice p_xs L_xs.length q_xs), (.func (.func f_f) s_f c_f), Ud, Ud, (Bo false), (.slice p_xs L_xs.length q_xs), (.func (.func f_f) s_f c_f), (Iv (findI pr_f L_xs)), (Bo (icmp .geq (findI pr_f L_xs) 0))]) rfl rfl (does_icmp (p := findI pr_f L_xs) (q := 0) (.inr (.inr (.inr (.inr (.inr rfl))))) (ev rfl) (ev rfl)) rfl ?_
  refine q_is (l' := [(.slice p_xs L_xs.length q_xs), (.func (.func f_f) s_f c_f), Ud, Ud, (Bo (icmp .geq (findI pr_f L_xs) 0)), (.slice p_xs L_xs.length q_xs), (.func (.func f_f) s_f c_f), (Iv (findI pr_f L_xs)), (Bo (icmp .geq (findI pr_f L_xs) 0))]) rfl rfl (does_assign (u := (Bo (icmp .geq (findI pr_f L_xs) 0))) (ev rfl)) rfl ?_
  refine wpList_nil (hK2 _ _ ?_)
  refine wp_ret ?_
  refine ret_val (v := (Bo (icmp .geq (findI pr_f L_xs) 0))) (res_T rfl (slot rfl)) X5 ?_
  have x6 : (L_xs.any pr_f) = (icmp .geq (findI pr_f L_xs) 0) := by first | with_reducible rfl | (simp only [findI_any]; done) | (simp [findI_any]; done) | rfl
  exact (by first | with_reducible rfl | rw [x6] | rfl)

/- impl.ValidShape$1 -/
theorem c_impl_ValidShape_1 (x_ : Int) (w : World) : Gives Try.prog 60 #[(Iv x_)] w (fun v w' => v = (Bo (icmp .neq x_ 1))) := by
  refine enter [(Iv x_), Ud, Ud, Ud, Ud] Try.func60 rfl Try.ntmps60 rfl ?_
  refine wp_seq_k fun K1 hK1 => ?_
  refine wp_region_lit ?_
  refine q_is (l' := [(Iv x_), Ud, (Bo false), Ud, Ud]) rfl rfl (does_assign (u := (Bo false)) (ev rfl)) rfl ?_
  refine wpList_nil (hK1 _ _ ?_)
  refine wp_seq_k fun K2 hK2 => ?_
  refine wp_region_lit ?_
  refine q_is (l' := [(Iv x_), Ud, (Bo false), (Iv x_), Ud]) rfl rfl (does_move (u := (Iv x_)) (ev rfl)) rfl ?_
  refine q_is (l' := [(Iv x_), Ud, (Bo false), (Iv x_), (Bo (icmp .neq x_ 1))]) rfl rfl (does_icmp (p := x_) (q := 1) (.inr (.inl rfl)) (ev rfl) (ev rfl)) rfl ?_
  refine q_is (l' := [(Iv x_), Ud, (Bo (icmp .neq x_ 1)), (Iv x_), (Bo (icmp .neq x_ 1))]) rfl rfl (does_assign (u := (Bo (icmp .neq x_ 1))) (ev rfl)) rfl ?_
  refine wpList_nil (hK2 _ _ ?_)
  refine wp_ret ?_
  refine ret_val (v := (Bo (icmp .neq x_ 1))) (res_T rfl (slot rfl)) (Ext.refl w) ?_
  exact rfl

end Go.Proofs.Ytiagimgdjngnfaa
