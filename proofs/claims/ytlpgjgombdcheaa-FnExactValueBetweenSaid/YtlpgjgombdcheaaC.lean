/- contracts of functions, each walked once -/
import Derived.Test.YtlpgjgombdcheaaTy
import Derived.Test.YtlpgjgombdcheaaUni
import Derived.Test.YtlpgjgombdcheaaOwn
import Derived.Test.YtlpgjgombdcheaaBtw
namespace Go.Proofs.Ytlpgjgombdcheaa
open Go Go.RowKit
set_option maxRecDepth 100000
set_option maxHeartbeats 3200000
set_option linter.unusedVariables false
set_option linter.unusedSimpArgs false

/- spec.l00Min -/
theorem c_spec_l00Min (m_ : Int) (n_ : Int) (w : World) : Gives Try.prog 31 #[(Iv m_), (Iv n_)] w (fun v w' => v = (Iv (min m_ n_))) := by
  refine enter [(Iv m_), (Iv n_), Ud, Ud, Ud, Ud, Ud, Ud, Ud, Ud] Try.func31 rfl Try.ntmps31 rfl ?_
  refine wp_seq_k fun K1 hK1 => ?_
  refine wp_region_lit ?_
  refine q_is (l' := [(Iv m_), (Iv n_), Ud, Ud, (Iv 0), Ud, Ud, Ud, Ud, Ud]) rfl rfl (does_assign (u := (Iv 0)) (ev rfl)) rfl ?_
  refine wpList_nil (hK1 _ _ ?_)
  refine wp_seq_k fun K2 hK2 => ?_
  refine wp_seq_k fun K3 hK3 => ?_
  refine wp_region_lit ?_
  refine q_is (l' := [(Iv m_), (Iv n_), Ud, Ud, (Iv 0), (Iv m_), Ud, Ud, Ud, Ud]) rfl rfl (does_move (u := (Iv m_)) (ev rfl)) rfl ?_
  refine q_is (l' := [(Iv m_), (Iv n_), Ud, Ud, (Iv 0), (Iv m_), (Iv n_), Ud, Ud, Ud]) rfl rfl (does_move (u := (Iv n_)) (ev rfl)) rfl ?_
  refine q_is (l' := [(Iv m_), (Iv n_), Ud, Ud, (Iv 0), (Iv m_), (Iv n_), (Bo (icmp .lss m_ n_)), Ud, Ud]) rfl rfl (does_icmp (p := m_) (q := n_) (.inr (.inr (.inl rfl))) (ev rfl) (ev rfl)) rfl ?_
  refine wpList_nil (hK3 _ _ ?_)
  refine wp_cond_split (t := icmp .lss m_ n_) (ev rfl) (fun c4 => ?_) (fun c4 => ?_)
  · have c4' := c4
    (try simp only [icmp, Bool.and_eq_true, Bool.or_eq_true, Bool.and_eq_false_iff, Bool.or_eq_false_iff, Bool.not_eq_true', Bool.not_eq_false', decide_eq_true_eq, decide_eq_false_iff_not, beq_iff_eq, bne_iff_ne, beq_eq_false_iff_ne, bne_eq_false_iff_eq] at c4')
    refine wp_seq_k fun K5 hK5 => ?_
    refine wp_region_lit ?_
    refine q_is (l' := [(Iv m_), (Iv n_), Ud, Ud, (Iv 0), (Iv m_), (Iv n_), (Bo (icmp .lss m_ n_)), (Iv m_), Ud]) rfl rfl (does_move (u := (Iv m_)) (ev rfl)) rfl ?_
    refine q_is (l' := [(Iv m_), (Iv n_), Ud, Ud, (Iv m_), (Iv m_), (Iv n_), (Bo (icmp .lss m_ n_)), (Iv m_), Ud]) rfl rfl (does_assign (u := (Iv m_)) (ev rfl)) rfl ?_
    refine wpList_nil (hK5 _ _ ?_)
    refine wp_ret ?_
    dsimp only [Exit.then, Exit.inBlock]
    refine ret_val (v := (Iv m_)) (res_T rfl (slot rfl)) (Ext.refl w) ?_
    have x6 : (min m_ n_ : Int) = m_ := by omega
    exact (by first | rfl | rw [x6])
  have c4' := c4
  (try simp only [icmp, Bool.and_eq_true, Bool.or_eq_true, Bool.and_eq_false_iff, Bool.or_eq_false_iff, Bool.not_eq_true', Bool.not_eq_false', decide_eq_true_eq, decide_eq_false_iff_not, beq_iff_eq, bne_iff_ne, beq_eq_false_iff_ne, bne_eq_false_iff_eq] at c4')
  refine wp_skip (hK2 _ _ ?_)
  refine wp_seq_k fun K7 hK7 => ?_
  refine wp_region_lit ?_
  refine q_is (l' := [(Iv m_), (Iv n_), Ud, Ud, (Iv 0), (Iv m_), (Iv n_), (Bo (icmp .lss m_ n_)), Ud, (Iv n_)]) rfl rfl (does_move (u := (Iv n_)) (ev rfl)) rfl ?_
  refine q_is (l' := [(Iv m_), (Iv n_), Ud, Ud, (Iv n_), (Iv m_), (Iv n_), (Bo (icmp .lss m_ n_)), Ud, (Iv n_)]) rfl rfl (does_assign (u := (Iv n_)) (ev rfl)) rfl ?_
  refine wpList_nil (hK7 _ _ ?_)
  refine wp_ret ?_
  refine ret_val (v := (Iv n_)) (res_T rfl (slot rfl)) (Ext.refl w) ?_
  have x8 : (min m_ n_ : Int) = n_ := by omega
  exact (by first | rfl | rw [x8])

/- spec.l00Max -/
theorem c_spec_l00Max (m_ : Int) (n_ : Int) (w : World) : Gives Try.prog 44 #[(Iv m_), (Iv n_)] w (fun v w' => v = (Iv (max n_ m_))) := by
  refine enter [(Iv m_), (Iv n_), Ud, Ud, Ud, Ud, Ud, Ud, Ud, Ud] Try.func44 rfl Try.ntmps44 rfl ?_
  refine wp_seq_k fun K1 hK1 => ?_
  refine wp_region_lit ?_
  refine q_is (l' := [(Iv m_), (Iv n_), Ud, Ud, (Iv 0), Ud, Ud, Ud, Ud, Ud]) rfl rfl (does_assign (u := (Iv 0)) (ev rfl)) rfl ?_
  refine wpList_nil (hK1 _ _ ?_)
  refine wp_seq_k fun K2 hK2 => ?_
  refine wp_seq_k fun K3 hK3 => ?_
  refine wp_region_lit ?_
  refine q_is (l' := [(Iv m_), (Iv n_), Ud, Ud, (Iv 0), (Iv m_), Ud, Ud, Ud, Ud]) rfl rfl (does_move (u := (Iv m_)) (ev rfl)) rfl ?_
  refine q_is (l' := [(Iv m_), (Iv n_), Ud, Ud, (Iv 0), (Iv m_), (Iv n_), Ud, Ud, Ud]) rfl rfl (does_move (u := (Iv n_)) (ev rfl)) rfl ?_
  refine q_is (l' := [(Iv m_), (Iv n_), Ud, Ud, (Iv 0), (Iv m_), (Iv n_), (Bo (icmp .gtr m_ n_)), Ud, Ud]) rfl rfl (does_icmp (p := m_) (q := n_) (.inr (.inr (.inr (.inr (.inl rfl))))) (ev rfl) (ev rfl)) rfl ?_
  refine wpList_nil (hK3 _ _ ?_)
  refine wp_cond_split (t := icmp .gtr m_ n_) (ev rfl) (fun c4 => ?_) (fun c4 => ?_)
  · have c4' := c4
    (try simp only [icmp, Bool.and_eq_true, Bool.or_eq_true, Bool.and_eq_false_iff, Bool.or_eq_false_iff, Bool.not_eq_true', Bool.not_eq_false', decide_eq_true_eq, decide_eq_false_iff_not, beq_iff_eq, bne_iff_ne, beq_eq_false_iff_ne, bne_eq_false_iff_eq] at c4')
    refine wp_seq_k fun K5 hK5 => ?_
    refine wp_region_lit ?_
    refine q_is (l' := [(Iv m_), (Iv n_), Ud, Ud, (Iv 0), (Iv m_), (Iv n_), (Bo (icmp .gtr m_ n_)), (Iv m_), Ud]) rfl rfl (does_move (u := (Iv m_)) (ev rfl)) rfl ?_
    refine q_is (l' := [(Iv m_), (Iv n_), Ud, Ud, (Iv m_), (Iv m_), (Iv n_), (Bo (icmp .gtr m_ n_)), (Iv m_), Ud]) rfl rfl (does_assign (u := (Iv m_)) (ev rfl)) rfl ?_
    refine wpList_nil (hK5 _ _ ?_)
    refine wp_ret ?_
    dsimp only [Exit.then, Exit.inBlock]
    refine ret_val (v := (Iv m_)) (res_T rfl (slot rfl)) (Ext.refl w) ?_
    have x6 : (max n_ m_ : Int) = m_ := by omega
    exact (by first | rfl | rw [x6])
  have c4' := c4
  (try simp only [icmp, Bool.and_eq_true, Bool.or_eq_true, Bool.and_eq_false_iff, Bool.or_eq_false_iff, Bool.not_eq_true', Bool.not_eq_false', decide_eq_true_eq, decide_eq_false_iff_not, beq_iff_eq, bne_iff_ne, beq_eq_false_iff_ne, bne_eq_false_iff_eq] at c4')
  refine wp_skip (hK2 _ _ ?_)
  refine wp_seq_k fun K7 hK7 => ?_
  refine wp_region_lit ?_
  refine q_is (l' := [(Iv m_), (Iv n_), Ud, Ud, (Iv 0), (Iv m_), (Iv n_), (Bo (icmp .gtr m_ n_)), Ud, (Iv n_)]) rfl rfl (does_move (u := (Iv n_)) (ev rfl)) rfl ?_
  refine q_is (l' := [(Iv m_), (Iv n_), Ud, Ud, (Iv n_), (Iv m_), (Iv n_), (Bo (icmp .gtr m_ n_)), Ud, (Iv n_)]) rfl rfl (does_assign (u := (Iv n_)) (ev rfl)) rfl ?_
  refine wpList_nil (hK7 _ _ ?_)
  refine wp_ret ?_
  refine ret_val (v := (Iv n_)) (res_T rfl (slot rfl)) (Ext.refl w) ?_
  have x8 : (max n_ m_ : Int) = n_ := by omega
  exact (by first | rfl | rw [x8])

/- math.Floor -/
theorem c_math_Floor (x : Nat) (w : World) : Gives Try.prog 45 #[(Fd x)] w (fun v w' => ∃ r_1 : Nat, v = (Fd r_1) ∧ cf .f64 r_1 = ffloor (cf .f64 x)) := by
  refine enter [(Fd x), Ud, Ud, Ud, Ud, Ud, Ud] Try.func45 rfl Try.ntmps45 rfl ?_
  refine wp_seq_k fun K1 hK1 => ?_
  refine wp_region_lit ?_
  refine q_is (l' := [(Fd x), Ud, (Fd 0), Ud, Ud, Ud, Ud]) rfl rfl (does_assign (u := (Fd 0)) (ev rfl)) rfl ?_
  refine wpList_nil (hK1 _ _ ?_)
  refine wp_seq_k fun K2 hK2 => ?_
  refine wp_cond_true (ev rfl) ?_
  refine wp_seq_k fun K3 hK3 => ?_
  refine wp_region_lit ?_
  refine q_is (l' := [(Fd x), Ud, (Fd 0), (Fd x), Ud, Ud, Ud]) rfl rfl (does_move (u := (Fd x)) (ev rfl)) rfl ?_
  refine seqd rfl rfl (does_floor (p := x) (ev rfl) cfl49) ?_; rintro _ w7 ⟨r4, rfl, h5, E6⟩
  have X8 := Ext.gr (Ext.refl w) E6
  show wpList _ _ _ _ (fr [(Fd x), Ud, (Fd 0), (Fd x), (Fd r4), Ud, Ud]) _
  refine q_is (l' := [(Fd x), Ud, (Fd r4), (Fd x), (Fd r4), Ud, Ud]) rfl rfl (does_assign (u := (Fd r4)) (ev rfl)) rfl ?_
  refine wpList_nil (hK3 _ _ ?_)
  refine wp_ret ?_
  dsimp only [Exit.then, Exit.inBlock]
  refine ret_val (v := (Fd r4)) (res_T rfl (slot rfl)) X8 ?_
  have x9 : cf .f64 r4 = ffloor (cf .f64 x) := by first | with_reducible rfl | (simp only [h5]; done) | (simp [h5]; done) | rfl
  exact ⟨r4, rfl, x9⟩

/- spec.l06Cell -/
theorem c_spec_l06Cell (p_ : Nat) (low : Nat) (st_ : Nat) (n : Int) (w : World) (hin : inR (ffloor (fwid (cellU (cf .f32 p_) (cf .f32 low) (cf .f32 st_) n)))) (hn : 1 ≤ n ∧ n ≤ 16) : Gives Try.prog 30 #[(Fl p_), (Fl low), (Fl st_), (Iv n)] w (fun v w' => ∃ r_1 : Nat, v = (.tuple #[(Iv (cellI (cf .f32 p_) (cf .f32 low) (cf .f32 st_) n)), (Fl r_1)]) ∧ cf .f32 r_1 = cellF (cf .f32 p_) (cf .f32 low) (cf .f32 st_) n) := by
  refine enter [(Fl p_), (Fl low), (Fl st_), (Iv n), Ud, Ud, Ud, Ud, Ud, Ud, Ud, Ud, Ud, Ud, Ud, Ud, Ud, Ud, Ud, Ud, Ud, Ud, Ud, Ud, Ud, Ud, Ud, Ud, Ud, Ud, Ud, Ud, Ud, Ud, Ud, Ud, Ud, Ud, Ud, Ud] Try.func30 rfl Try.ntmps30 rfl ?_
  refine wp_seq_k fun K1 hK1 => ?_
  refine wp_region_lit ?_
  refine q_is rfl rfl (does_assign (u := (Iv 0)) (ev rfl)) (by dsimp only [List.set]; try rfl) ?_
  refine q_is rfl rfl (does_assign (u := (Fl 0)) (ev rfl)) (by dsimp only [List.set]; try rfl) ?_
  refine wpList_nil (hK1 _ _ ?_)
  refine wp_seq_k fun K2 hK2 => ?_
  refine wp_region_lit ?_
  refine q_is rfl rfl (does_move (u := (Fl p_)) (ev rfl)) (by dsimp only [List.set]; try rfl) ?_
  refine q_is rfl rfl (does_move (u := (Fl low)) (ev rfl)) (by dsimp only [List.set]; try rfl) ?_
  refine seqd rfl rfl (does_float (.inr (.inl rfl)) (ev rfl) (ev rfl)) ?_; rintro _ w6 ⟨r3, rfl, h4, E5⟩
  have X7 := Ext.gr (Ext.refl w) E5
  show wpList _ _ _ _ (fr [(Fl p_), (Fl low), (Fl st_), (Iv n), Ud, Ud, Ud, Ud, (Iv 0), (Fl 0), Ud, Ud, (Fl p_), (Fl low), (Fl r3), Ud, Ud, Ud, Ud, Ud, Ud, Ud, Ud, Ud, Ud, Ud, Ud, Ud, Ud, Ud, Ud, Ud, Ud, Ud, Ud, Ud, Ud, Ud, Ud, Ud]) _
  refine q_is rfl rfl (does_move (u := (Fl st_)) (ev rfl)) (by dsimp only [List.set]; try rfl) ?_
  refine seqd rfl rfl (does_float (.inr (.inr (.inr rfl))) (ev rfl) (ev rfl)) ?_; rintro _ w11 ⟨r8, rfl, h9, E10⟩
  have X12 := Ext.gr X7 E10
  show wpList _ _ _ _ (fr [(Fl p_), (Fl low), (Fl st_), (Iv n), Ud, Ud, Ud, Ud, (Iv 0), (Fl 0), Ud, Ud, (Fl p_), (Fl low), (Fl r3), (Fl st_), (Fl r8), Ud, Ud, Ud, Ud, Ud, Ud, Ud, Ud, Ud, Ud, Ud, Ud, Ud, Ud, Ud, Ud, Ud, Ud, Ud, Ud, Ud, Ud, Ud]) _
  refine q_is rfl rfl (does_assign (u := (Fl r8)) (ev rfl)) (by dsimp only [List.set]; try rfl) ?_
  refine wpList_nil (hK2 _ _ ?_)
  refine wp_seq_k fun K13 hK13 => ?_
  refine wp_seq_k fun K14 hK14 => ?_
  refine wp_region_lit ?_
  refine q_is rfl rfl (does_move (u := (Fl r8)) (ev rfl)) (by dsimp only [List.set]; try rfl) ?_
  refine q_is rfl rfl (does_fcmp (.inr (.inr (.inl rfl))) (ev rfl) (ev rfl)) (by dsimp only [List.set]; try rfl) ?_
  refine wpList_nil (hK14 _ _ ?_)
  refine wp_cond_split (t := fcmp .lss (ford .f32 (cf .f32 r8) (cf .f32 0))) (ev rfl) (fun c15 => ?_) (fun c15 => ?_)
  · have c15' := c15
    (try simp only [h4, h9] at c15)
    refine wp_region_lit ?_
    refine q_is rfl rfl (does_assign (u := (Fl 0)) (ev rfl)) (by dsimp only [List.set]; try rfl) ?_
    refine wpList_nil (hK13 _ _ ?_)
    refine wp_seq_k fun K16 hK16 => ?_
    refine wp_seq_k fun K17 hK17 => ?_
    refine wp_region_lit ?_
    refine q_is rfl rfl (does_move (u := (Fl 0)) (ev rfl)) (by dsimp only [List.set]; try rfl) ?_
    refine q_is rfl rfl (does_move (u := (Iv n)) (ev rfl)) (by dsimp only [List.set]; try rfl) ?_
    refine q_is rfl rfl (does_iarith (p := n) (q := 1) (r := n - 1) (ev rfl) (ev rfl) (.inr (.inl ⟨rfl, (in_i64 (by omega) (by omega)).symm⟩))) (by dsimp only [List.set]; try rfl) ?_
    refine q_is rfl rfl (does_conv_if (k := .f32) Try.underlying2 Try.underlying22 (ev rfl)) (by dsimp only [List.set]; try rfl) ?_
    refine q_is rfl rfl (does_fcmp (.inr (.inr (.inr (.inr (.inl rfl))))) (ev rfl) (ev rfl)) (by dsimp only [List.set]; try rfl) ?_
    refine wpList_nil (hK17 _ _ ?_)
    refine wp_cond_split (t := fcmp .gtr (ford .f32 (cf .f32 0) (cf .f32 (FloatKind.f32.nearest (n - 1))))) (ev rfl) (fun c18 => ?_) (fun c18 => ?_)
    · have c18' := c18
      (try simp only [h4, h9] at c18)
      refine wp_region_lit ?_
      refine q_is rfl rfl (does_move (u := (Iv n)) (ev rfl)) (by dsimp only [List.set]; try rfl) ?_
      refine q_is rfl rfl (does_iarith (p := n) (q := 1) (r := n - 1) (ev rfl) (ev rfl) (.inr (.inl ⟨rfl, (in_i64 (by omega) (by omega)).symm⟩))) (by dsimp only [List.set]; try rfl) ?_
      refine q_is rfl rfl (does_conv_if (k := .f32) Try.underlying2 Try.underlying22 (ev rfl)) (by dsimp only [List.set]; try rfl) ?_
      refine q_is rfl rfl (does_assign (u := (Fl (FloatKind.f32.nearest (n - 1)))) (ev rfl)) (by dsimp only [List.set]; try rfl) ?_
      refine wpList_nil (hK16 _ _ ?_)
      refine wp_seq_k fun K19 hK19 => ?_
      refine wp_region_lit ?_
      refine q_is rfl rfl (does_move (u := (Fl (FloatKind.f32.nearest (n - 1)))) (ev rfl)) (by dsimp only [List.set]; try rfl) ?_
      refine seqd rfl rfl (does_widen Try.underlying22 Try.underlying37 (ev rfl)) ?_; rintro _ w23 ⟨r20, rfl, h21, E22⟩
      have X24 := Ext.gr X12 E22
      show wpList _ _ _ _ (fr [(Fl p_), (Fl low), (Fl st_), (Iv n), Ud, Ud, Ud, Ud, (Iv 0), (Fl 0), (Fl (FloatKind.f32.nearest (n - 1))), Ud, (Fl p_), (Fl low), (Fl r3), (Fl st_), (Fl r8), (Fl r8), (Bo (fcmp .lss (ford .f32 (cf .f32 r8) (cf .f32 0)))), (Fl 0), (Iv n), (Iv (n - 1)), (Fl (FloatKind.f32.nearest (n - 1))), (Bo (fcmp .gtr (ford .f32 (cf .f32 0) (cf .f32 (FloatKind.f32.nearest (n - 1)))))), (Iv n), (Iv (n - 1)), (Fl (FloatKind.f32.nearest (n - 1))), (Fl (FloatKind.f32.nearest (n - 1))), (Fd r20), Ud, Ud, Ud, Ud, Ud, Ud, Ud, Ud, Ud, Ud, Ud]) _
      refine seqd rfl rfl (does_call (args := #[(Fd r20)]) cal45 (evs rfl) (c_math_Floor r20 _)) ?_; rintro _ w26 ⟨E25, ⟨r27, rfl, h28⟩⟩
      have X29 := Ext.gr X24 E25
      show wpList _ _ _ _ (fr [(Fl p_), (Fl low), (Fl st_), (Iv n), Ud, Ud, Ud, Ud, (Iv 0), (Fl 0), (Fl (FloatKind.f32.nearest (n - 1))), Ud, (Fl p_), (Fl low), (Fl r3), (Fl st_), (Fl r8), (Fl r8), (Bo (fcmp .lss (ford .f32 (cf .f32 r8) (cf .f32 0)))), (Fl 0), (Iv n), (Iv (n - 1)), (Fl (FloatKind.f32.nearest (n - 1))), (Bo (fcmp .gtr (ford .f32 (cf .f32 0) (cf .f32 (FloatKind.f32.nearest (n - 1)))))), (Iv n), (Iv (n - 1)), (Fl (FloatKind.f32.nearest (n - 1))), (Fl (FloatKind.f32.nearest (n - 1))), (Fd r20), (Fd r27), Ud, Ud, Ud, Ud, Ud, Ud, Ud, Ud, Ud, Ud]) _
      refine q_is rfl rfl (does_conv_fi (p := r27) Try.underlying37 Try.underlying2 (ev rfl) (by first | assumption | (simp only [h4, h9, h21, h28]; first | assumption | exact (by have hz := hin; simp only [cellU, nrF, h4, h9, h21, h28, c15, c18, if_true, if_false, Bool.false_eq_true, ↓reduceIte] at hz; exact hz)))) (by dsimp only [List.set]; try rfl) ?_
      refine q_is rfl rfl (does_move (u := (Iv n)) (ev rfl)) (by dsimp only [List.set]; try rfl) ?_
      refine q_is rfl rfl (does_iarith (p := n) (q := 2) (r := n - 2) (ev rfl) (ev rfl) (.inr (.inl ⟨rfl, (in_i64 (by omega) (by omega)).symm⟩))) (by dsimp only [List.set]; try rfl) ?_
      refine seqd rfl rfl (does_call (args := #[(Iv (intOf (cf .f64 r27))), (Iv (n - 2))]) cal31 (evs rfl) (c_spec_l00Min (intOf (cf .f64 r27)) (n - 2) _)) ?_; rintro _ w31 ⟨E30, rfl⟩
      have X32 := Ext.gr X29 E30
      show wpList _ _ _ _ (fr [(Fl p_), (Fl low), (Fl st_), (Iv n), Ud, Ud, Ud, Ud, (Iv 0), (Fl 0), (Fl (FloatKind.f32.nearest (n - 1))), Ud, (Fl p_), (Fl low), (Fl r3), (Fl st_), (Fl r8), (Fl r8), (Bo (fcmp .lss (ford .f32 (cf .f32 r8) (cf .f32 0)))), (Fl 0), (Iv n), (Iv (n - 1)), (Fl (FloatKind.f32.nearest (n - 1))), (Bo (fcmp .gtr (ford .f32 (cf .f32 0) (cf .f32 (FloatKind.f32.nearest (n - 1)))))), (Iv n), (Iv (n - 1)), (Fl (FloatKind.f32.nearest (n - 1))), (Fl (FloatKind.f32.nearest (n - 1))), (Fd r20), (Fd r27), (Iv (intOf (cf .f64 r27))), (Iv n), (Iv (n - 2)), (Iv (min (intOf (cf .f64 r27)) (n - 2))), Ud, Ud, Ud, Ud, Ud, Ud]) _
      refine seqd rfl rfl (does_call (args := #[(Iv 0), (Iv (min (intOf (cf .f64 r27)) (n - 2)))]) cal44 (evs rfl) (c_spec_l00Max 0 (min (intOf (cf .f64 r27)) (n - 2)) _)) ?_; rintro _ w34 ⟨E33, rfl⟩
      have X35 := Ext.gr X32 E33
      show wpList _ _ _ _ (fr [(Fl p_), (Fl low), (Fl st_), (Iv n), Ud, Ud, Ud, Ud, (Iv 0), (Fl 0), (Fl (FloatKind.f32.nearest (n - 1))), Ud, (Fl p_), (Fl low), (Fl r3), (Fl st_), (Fl r8), (Fl r8), (Bo (fcmp .lss (ford .f32 (cf .f32 r8) (cf .f32 0)))), (Fl 0), (Iv n), (Iv (n - 1)), (Fl (FloatKind.f32.nearest (n - 1))), (Bo (fcmp .gtr (ford .f32 (cf .f32 0) (cf .f32 (FloatKind.f32.nearest (n - 1)))))), (Iv n), (Iv (n - 1)), (Fl (FloatKind.f32.nearest (n - 1))), (Fl (FloatKind.f32.nearest (n - 1))), (Fd r20), (Fd r27), (Iv (intOf (cf .f64 r27))), (Iv n), (Iv (n - 2)), (Iv (min (intOf (cf .f64 r27)) (n - 2))), (Iv (max (min (intOf (cf .f64 r27)) (n - 2)) 0)), Ud, Ud, Ud, Ud, Ud]) _
      refine q_is rfl rfl (does_assign (u := (Iv (max (min (intOf (cf .f64 r27)) (n - 2)) 0))) (ev rfl)) (by dsimp only [List.set]; try rfl) ?_
      refine wpList_nil (hK19 _ _ ?_)
      refine wp_seq_k fun K36 hK36 => ?_
      refine wp_region_lit ?_
      refine q_is rfl rfl (does_move (u := (Iv (max (min (intOf (cf .f64 r27)) (n - 2)) 0))) (ev rfl)) (by dsimp only [List.set]; try rfl) ?_
      refine q_is rfl rfl (does_move (u := (Fl (FloatKind.f32.nearest (n - 1)))) (ev rfl)) (by dsimp only [List.set]; try rfl) ?_
      refine q_is rfl rfl (does_move (u := (Iv (max (min (intOf (cf .f64 r27)) (n - 2)) 0))) (ev rfl)) (by dsimp only [List.set]; try rfl) ?_
      refine q_is rfl rfl (does_conv_if (k := .f32) Try.underlying2 Try.underlying22 (ev rfl)) (by dsimp only [List.set]; try rfl) ?_
      refine seqd rfl rfl (does_float (.inr (.inl rfl)) (ev rfl) (ev rfl)) ?_; rintro _ w40 ⟨r37, rfl, h38, E39⟩
      have X41 := Ext.gr X35 E39
      show wpList _ _ _ _ (fr [(Fl p_), (Fl low), (Fl st_), (Iv n), Ud, Ud, Ud, Ud, (Iv 0), (Fl 0), (Fl (FloatKind.f32.nearest (n - 1))), (Iv (max (min (intOf (cf .f64 r27)) (n - 2)) 0)), (Fl p_), (Fl low), (Fl r3), (Fl st_), (Fl r8), (Fl r8), (Bo (fcmp .lss (ford .f32 (cf .f32 r8) (cf .f32 0)))), (Fl 0), (Iv n), (Iv (n - 1)), (Fl (FloatKind.f32.nearest (n - 1))), (Bo (fcmp .gtr (ford .f32 (cf .f32 0) (cf .f32 (FloatKind.f32.nearest (n - 1)))))), (Iv n), (Iv (n - 1)), (Fl (FloatKind.f32.nearest (n - 1))), (Fl (FloatKind.f32.nearest (n - 1))), (Fd r20), (Fd r27), (Iv (intOf (cf .f64 r27))), (Iv n), (Iv (n - 2)), (Iv (min (intOf (cf .f64 r27)) (n - 2))), (Iv (max (min (intOf (cf .f64 r27)) (n - 2)) 0)), (Iv (max (min (intOf (cf .f64 r27)) (n - 2)) 0)), (Fl (FloatKind.f32.nearest (n - 1))), (Iv (max (min (intOf (cf .f64 r27)) (n - 2)) 0)), (Fl (FloatKind.f32.nearest (max (min (intOf (cf .f64 r27)) (n - 2)) 0))), (Fl r37)]) _
      refine q_is rfl rfl (does_assign (u := (Iv (max (min (intOf (cf .f64 r27)) (n - 2)) 0))) (ev rfl)) (by dsimp only [List.set]; try rfl) ?_
      refine q_is rfl rfl (does_assign (u := (Fl r37)) (ev rfl)) (by dsimp only [List.set]; try rfl) ?_
      refine wpList_nil (hK36 _ _ ?_)
      refine wp_ret ?_
      refine ret_val (v := (.tuple #[(Iv (max (min (intOf (cf .f64 r27)) (n - 2)) 0)), (Fl r37)])) (res_TT rfl (slot rfl) (slot rfl)) X41 ?_
      try simp only [h4, h9, h21, h28, h38] at c15 c18
      have x42 : (cellI (cf .f32 p_) (cf .f32 low) (cf .f32 st_) n : Int) = (max (min (intOf (cf .f64 r27)) (n - 2)) 0) := by first | rfl | (simp only [cellI, cellF, cellU, nrF, h4, h9, h21, h28, h38, c15, c18, if_true, if_false, Bool.false_eq_true, ↓reduceIte]; done) | (simp only [cellI, cellF, cellU, nrF, h4, h9, h21, h28, h38, c15, c18, if_true, if_false, Bool.false_eq_true, ↓reduceIte]; rfl)
      have x43 : cf .f32 r37 = cellF (cf .f32 p_) (cf .f32 low) (cf .f32 st_) n := by first | rfl | (simp only [cellI, cellF, cellU, nrF, h4, h9, h21, h28, h38, c15, c18, if_true, if_false, Bool.false_eq_true, ↓reduceIte]; done) | (simp only [cellI, cellF, cellU, nrF, h4, h9, h21, h28, h38, c15, c18, if_true, if_false, Bool.false_eq_true, ↓reduceIte]; rfl)
      exact ⟨r37, (by first | rfl | rw [x42]), x43⟩
    have c18' := c18
    (try simp only [h4, h9] at c18)
    refine wp_skip (hK16 _ _ ?_)
    refine wp_seq_k fun K44 hK44 => ?_
    refine wp_region_lit ?_
    refine q_is rfl rfl (does_move (u := (Fl 0)) (ev rfl)) (by dsimp only [List.set]; try rfl) ?_
    refine seqd rfl rfl (does_widen Try.underlying22 Try.underlying37 (ev rfl)) ?_; rintro _ w48 ⟨r45, rfl, h46, E47⟩
    have X49 := Ext.gr X12 E47
    show wpList _ _ _ _ (fr [(Fl p_), (Fl low), (Fl st_), (Iv n), Ud, Ud, Ud, Ud, (Iv 0), (Fl 0), (Fl 0), Ud, (Fl p_), (Fl low), (Fl r3), (Fl st_), (Fl r8), (Fl r8), (Bo (fcmp .lss (ford .f32 (cf .f32 r8) (cf .f32 0)))), (Fl 0), (Iv n), (Iv (n - 1)), (Fl (FloatKind.f32.nearest (n - 1))), (Bo (fcmp .gtr (ford .f32 (cf .f32 0) (cf .f32 (FloatKind.f32.nearest (n - 1)))))), Ud, Ud, Ud, (Fl 0), (Fd r45), Ud, Ud, Ud, Ud, Ud, Ud, Ud, Ud, Ud, Ud, Ud]) _
    refine seqd rfl rfl (does_call (args := #[(Fd r45)]) cal45 (evs rfl) (c_math_Floor r45 _)) ?_; rintro _ w51 ⟨E50, ⟨r52, rfl, h53⟩⟩
    have X54 := Ext.gr X49 E50
    show wpList _ _ _ _ (fr [(Fl p_), (Fl low), (Fl st_), (Iv n), Ud, Ud, Ud, Ud, (Iv 0), (Fl 0), (Fl 0), Ud, (Fl p_), (Fl low), (Fl r3), (Fl st_), (Fl r8), (Fl r8), (Bo (fcmp .lss (ford .f32 (cf .f32 r8) (cf .f32 0)))), (Fl 0), (Iv n), (Iv (n - 1)), (Fl (FloatKind.f32.nearest (n - 1))), (Bo (fcmp .gtr (ford .f32 (cf .f32 0) (cf .f32 (FloatKind.f32.nearest (n - 1)))))), Ud, Ud, Ud, (Fl 0), (Fd r45), (Fd r52), Ud, Ud, Ud, Ud, Ud, Ud, Ud, Ud, Ud, Ud]) _
    refine q_is rfl rfl (does_conv_fi (p := r52) Try.underlying37 Try.underlying2 (ev rfl) (by first | assumption | (simp only [h4, h9, h46, h53]; first | assumption | exact (by have hz := hin; simp only [cellU, nrF, h4, h9, h46, h53, c15, c18, if_true, if_false, Bool.false_eq_true, ↓reduceIte] at hz; exact hz)))) (by dsimp only [List.set]; try rfl) ?_
    refine q_is rfl rfl (does_move (u := (Iv n)) (ev rfl)) (by dsimp only [List.set]; try rfl) ?_
    refine q_is rfl rfl (does_iarith (p := n) (q := 2) (r := n - 2) (ev rfl) (ev rfl) (.inr (.inl ⟨rfl, (in_i64 (by omega) (by omega)).symm⟩))) (by dsimp only [List.set]; try rfl) ?_
    refine seqd rfl rfl (does_call (args := #[(Iv (intOf (cf .f64 r52))), (Iv (n - 2))]) cal31 (evs rfl) (c_spec_l00Min (intOf (cf .f64 r52)) (n - 2) _)) ?_; rintro _ w56 ⟨E55, rfl⟩
    have X57 := Ext.gr X54 E55
    show wpList _ _ _ _ (fr [(Fl p_), (Fl low), (Fl st_), (Iv n), Ud, Ud, Ud, Ud, (Iv 0), (Fl 0), (Fl 0), Ud, (Fl p_), (Fl low), (Fl r3), (Fl st_), (Fl r8), (Fl r8), (Bo (fcmp .lss (ford .f32 (cf .f32 r8) (cf .f32 0)))), (Fl 0), (Iv n), (Iv (n - 1)), (Fl (FloatKind.f32.nearest (n - 1))), (Bo (fcmp .gtr (ford .f32 (cf .f32 0) (cf .f32 (FloatKind.f32.nearest (n - 1)))))), Ud, Ud, Ud, (Fl 0), (Fd r45), (Fd r52), (Iv (intOf (cf .f64 r52))), (Iv n), (Iv (n - 2)), (Iv (min (intOf (cf .f64 r52)) (n - 2))), Ud, Ud, Ud, Ud, Ud, Ud]) _
    refine seqd rfl rfl (does_call (args := #[(Iv 0), (Iv (min (intOf (cf .f64 r52)) (n - 2)))]) cal44 (evs rfl) (c_spec_l00Max 0 (min (intOf (cf .f64 r52)) (n - 2)) _)) ?_; rintro _ w59 ⟨E58, rfl⟩
    have X60 := Ext.gr X57 E58
    show wpList _ _ _ _ (fr [(Fl p_), (Fl low), (Fl st_), (Iv n), Ud, Ud, Ud, Ud, (Iv 0), (Fl 0), (Fl 0), Ud, (Fl p_), (Fl low), (Fl r3), (Fl st_), (Fl r8), (Fl r8), (Bo (fcmp .lss (ford .f32 (cf .f32 r8) (cf .f32 0)))), (Fl 0), (Iv n), (Iv (n - 1)), (Fl (FloatKind.f32.nearest (n - 1))), (Bo (fcmp .gtr (ford .f32 (cf .f32 0) (cf .f32 (FloatKind.f32.nearest (n - 1)))))), Ud, Ud, Ud, (Fl 0), (Fd r45), (Fd r52), (Iv (intOf (cf .f64 r52))), (Iv n), (Iv (n - 2)), (Iv (min (intOf (cf .f64 r52)) (n - 2))), (Iv (max (min (intOf (cf .f64 r52)) (n - 2)) 0)), Ud, Ud, Ud, Ud, Ud]) _
    refine q_is rfl rfl (does_assign (u := (Iv (max (min (intOf (cf .f64 r52)) (n - 2)) 0))) (ev rfl)) (by dsimp only [List.set]; try rfl) ?_
    refine wpList_nil (hK44 _ _ ?_)
    refine wp_seq_k fun K61 hK61 => ?_
    refine wp_region_lit ?_
    refine q_is rfl rfl (does_move (u := (Iv (max (min (intOf (cf .f64 r52)) (n - 2)) 0))) (ev rfl)) (by dsimp only [List.set]; try rfl) ?_
    refine q_is rfl rfl (does_move (u := (Fl 0)) (ev rfl)) (by dsimp only [List.set]; try rfl) ?_
    refine q_is rfl rfl (does_move (u := (Iv (max (min (intOf (cf .f64 r52)) (n - 2)) 0))) (ev rfl)) (by dsimp only [List.set]; try rfl) ?_
    refine q_is rfl rfl (does_conv_if (k := .f32) Try.underlying2 Try.underlying22 (ev rfl)) (by dsimp only [List.set]; try rfl) ?_
    refine seqd rfl rfl (does_float (.inr (.inl rfl)) (ev rfl) (ev rfl)) ?_; rintro _ w65 ⟨r62, rfl, h63, E64⟩
    have X66 := Ext.gr X60 E64
    show wpList _ _ _ _ (fr [(Fl p_), (Fl low), (Fl st_), (Iv n), Ud, Ud, Ud, Ud, (Iv 0), (Fl 0), (Fl 0), (Iv (max (min (intOf (cf .f64 r52)) (n - 2)) 0)), (Fl p_), (Fl low), (Fl r3), (Fl st_), (Fl r8), (Fl r8), (Bo (fcmp .lss (ford .f32 (cf .f32 r8) (cf .f32 0)))), (Fl 0), (Iv n), (Iv (n - 1)), (Fl (FloatKind.f32.nearest (n - 1))), (Bo (fcmp .gtr (ford .f32 (cf .f32 0) (cf .f32 (FloatKind.f32.nearest (n - 1)))))), Ud, Ud, Ud, (Fl 0), (Fd r45), (Fd r52), (Iv (intOf (cf .f64 r52))), (Iv n), (Iv (n - 2)), (Iv (min (intOf (cf .f64 r52)) (n - 2))), (Iv (max (min (intOf (cf .f64 r52)) (n - 2)) 0)), (Iv (max (min (intOf (cf .f64 r52)) (n - 2)) 0)), (Fl 0), (Iv (max (min (intOf (cf .f64 r52)) (n - 2)) 0)), (Fl (FloatKind.f32.nearest (max (min (intOf (cf .f64 r52)) (n - 2)) 0))), (Fl r62)]) _
    refine q_is rfl rfl (does_assign (u := (Iv (max (min (intOf (cf .f64 r52)) (n - 2)) 0))) (ev rfl)) (by dsimp only [List.set]; try rfl) ?_
    refine q_is rfl rfl (does_assign (u := (Fl r62)) (ev rfl)) (by dsimp only [List.set]; try rfl) ?_
    refine wpList_nil (hK61 _ _ ?_)
    refine wp_ret ?_
    refine ret_val (v := (.tuple #[(Iv (max (min (intOf (cf .f64 r52)) (n - 2)) 0)), (Fl r62)])) (res_TT rfl (slot rfl) (slot rfl)) X66 ?_
    try simp only [h4, h9, h46, h53, h63] at c15 c18
    have x67 : (cellI (cf .f32 p_) (cf .f32 low) (cf .f32 st_) n : Int) = (max (min (intOf (cf .f64 r52)) (n - 2)) 0) := by first | rfl | (simp only [cellI, cellF, cellU, nrF, h4, h9, h46, h53, h63, c15, c18, if_true, if_false, Bool.false_eq_true, ↓reduceIte]; done) | (simp only [cellI, cellF, cellU, nrF, h4, h9, h46, h53, h63, c15, c18, if_true, if_false, Bool.false_eq_true, ↓reduceIte]; rfl)
    have x68 : cf .f32 r62 = cellF (cf .f32 p_) (cf .f32 low) (cf .f32 st_) n := by first | rfl | (simp only [cellI, cellF, cellU, nrF, h4, h9, h46, h53, h63, c15, c18, if_true, if_false, Bool.false_eq_true, ↓reduceIte]; done) | (simp only [cellI, cellF, cellU, nrF, h4, h9, h46, h53, h63, c15, c18, if_true, if_false, Bool.false_eq_true, ↓reduceIte]; rfl)
    exact ⟨r62, (by first | rfl | rw [x67]), x68⟩
  have c15' := c15
  (try simp only [h4, h9] at c15)
  refine wp_skip (hK13 _ _ ?_)
  refine wp_seq_k fun K69 hK69 => ?_
  refine wp_seq_k fun K70 hK70 => ?_
  refine wp_region_lit ?_
  refine q_is rfl rfl (does_move (u := (Fl r8)) (ev rfl)) (by dsimp only [List.set]; try rfl) ?_
  refine q_is rfl rfl (does_move (u := (Iv n)) (ev rfl)) (by dsimp only [List.set]; try rfl) ?_
  refine q_is rfl rfl (does_iarith (p := n) (q := 1) (r := n - 1) (ev rfl) (ev rfl) (.inr (.inl ⟨rfl, (in_i64 (by omega) (by omega)).symm⟩))) (by dsimp only [List.set]; try rfl) ?_
  refine q_is rfl rfl (does_conv_if (k := .f32) Try.underlying2 Try.underlying22 (ev rfl)) (by dsimp only [List.set]; try rfl) ?_
  refine q_is rfl rfl (does_fcmp (.inr (.inr (.inr (.inr (.inl rfl))))) (ev rfl) (ev rfl)) (by dsimp only [List.set]; try rfl) ?_
  refine wpList_nil (hK70 _ _ ?_)
  refine wp_cond_split (t := fcmp .gtr (ford .f32 (cf .f32 r8) (cf .f32 (FloatKind.f32.nearest (n - 1))))) (ev rfl) (fun c71 => ?_) (fun c71 => ?_)
  · have c71' := c71
    (try simp only [h4, h9] at c71)
    refine wp_region_lit ?_
    refine q_is rfl rfl (does_move (u := (Iv n)) (ev rfl)) (by dsimp only [List.set]; try rfl) ?_
    refine q_is rfl rfl (does_iarith (p := n) (q := 1) (r := n - 1) (ev rfl) (ev rfl) (.inr (.inl ⟨rfl, (in_i64 (by omega) (by omega)).symm⟩))) (by dsimp only [List.set]; try rfl) ?_
    refine q_is rfl rfl (does_conv_if (k := .f32) Try.underlying2 Try.underlying22 (ev rfl)) (by dsimp only [List.set]; try rfl) ?_
    refine q_is rfl rfl (does_assign (u := (Fl (FloatKind.f32.nearest (n - 1)))) (ev rfl)) (by dsimp only [List.set]; try rfl) ?_
    refine wpList_nil (hK69 _ _ ?_)
    refine wp_seq_k fun K72 hK72 => ?_
    refine wp_region_lit ?_
    refine q_is rfl rfl (does_move (u := (Fl (FloatKind.f32.nearest (n - 1)))) (ev rfl)) (by dsimp only [List.set]; try rfl) ?_
    refine seqd rfl rfl (does_widen Try.underlying22 Try.underlying37 (ev rfl)) ?_; rintro _ w76 ⟨r73, rfl, h74, E75⟩
    have X77 := Ext.gr X12 E75
    show wpList _ _ _ _ (fr [(Fl p_), (Fl low), (Fl st_), (Iv n), Ud, Ud, Ud, Ud, (Iv 0), (Fl 0), (Fl (FloatKind.f32.nearest (n - 1))), Ud, (Fl p_), (Fl low), (Fl r3), (Fl st_), (Fl r8), (Fl r8), (Bo (fcmp .lss (ford .f32 (cf .f32 r8) (cf .f32 0)))), (Fl r8), (Iv n), (Iv (n - 1)), (Fl (FloatKind.f32.nearest (n - 1))), (Bo (fcmp .gtr (ford .f32 (cf .f32 r8) (cf .f32 (FloatKind.f32.nearest (n - 1)))))), (Iv n), (Iv (n - 1)), (Fl (FloatKind.f32.nearest (n - 1))), (Fl (FloatKind.f32.nearest (n - 1))), (Fd r73), Ud, Ud, Ud, Ud, Ud, Ud, Ud, Ud, Ud, Ud, Ud]) _
    refine seqd rfl rfl (does_call (args := #[(Fd r73)]) cal45 (evs rfl) (c_math_Floor r73 _)) ?_; rintro _ w79 ⟨E78, ⟨r80, rfl, h81⟩⟩
    have X82 := Ext.gr X77 E78
    show wpList _ _ _ _ (fr [(Fl p_), (Fl low), (Fl st_), (Iv n), Ud, Ud, Ud, Ud, (Iv 0), (Fl 0), (Fl (FloatKind.f32.nearest (n - 1))), Ud, (Fl p_), (Fl low), (Fl r3), (Fl st_), (Fl r8), (Fl r8), (Bo (fcmp .lss (ford .f32 (cf .f32 r8) (cf .f32 0)))), (Fl r8), (Iv n), (Iv (n - 1)), (Fl (FloatKind.f32.nearest (n - 1))), (Bo (fcmp .gtr (ford .f32 (cf .f32 r8) (cf .f32 (FloatKind.f32.nearest (n - 1)))))), (Iv n), (Iv (n - 1)), (Fl (FloatKind.f32.nearest (n - 1))), (Fl (FloatKind.f32.nearest (n - 1))), (Fd r73), (Fd r80), Ud, Ud, Ud, Ud, Ud, Ud, Ud, Ud, Ud, Ud]) _
    refine q_is rfl rfl (does_conv_fi (p := r80) Try.underlying37 Try.underlying2 (ev rfl) (by first | assumption | (simp only [h4, h9, h74, h81]; first | assumption | exact (by have hz := hin; simp only [cellU, nrF, h4, h9, h74, h81, c15, c71, if_true, if_false, Bool.false_eq_true, ↓reduceIte] at hz; exact hz)))) (by dsimp only [List.set]; try rfl) ?_
    refine q_is rfl rfl (does_move (u := (Iv n)) (ev rfl)) (by dsimp only [List.set]; try rfl) ?_
    refine q_is rfl rfl (does_iarith (p := n) (q := 2) (r := n - 2) (ev rfl) (ev rfl) (.inr (.inl ⟨rfl, (in_i64 (by omega) (by omega)).symm⟩))) (by dsimp only [List.set]; try rfl) ?_
    refine seqd rfl rfl (does_call (args := #[(Iv (intOf (cf .f64 r80))), (Iv (n - 2))]) cal31 (evs rfl) (c_spec_l00Min (intOf (cf .f64 r80)) (n - 2) _)) ?_; rintro _ w84 ⟨E83, rfl⟩
    have X85 := Ext.gr X82 E83
    show wpList _ _ _ _ (fr [(Fl p_), (Fl low), (Fl st_), (Iv n), Ud, Ud, Ud, Ud, (Iv 0), (Fl 0), (Fl (FloatKind.f32.nearest (n - 1))), Ud, (Fl p_), (Fl low), (Fl r3), (Fl st_), (Fl r8), (Fl r8), (Bo (fcmp .lss (ford .f32 (cf .f32 r8) (cf .f32 0)))), (Fl r8), (Iv n), (Iv (n - 1)), (Fl (FloatKind.f32.nearest (n - 1))), (Bo (fcmp .gtr (ford .f32 (cf .f32 r8) (cf .f32 (FloatKind.f32.nearest (n - 1)))))), (Iv n), (Iv (n - 1)), (Fl (FloatKind.f32.nearest (n - 1))), (Fl (FloatKind.f32.nearest (n - 1))), (Fd r73), (Fd r80), (Iv (intOf (cf .f64 r80))), (Iv n), (Iv (n - 2)), (Iv (min (intOf (cf .f64 r80)) (n - 2))), Ud, Ud, Ud, Ud, Ud, Ud]) _
    refine seqd rfl rfl (does_call (args := #[(Iv 0), (Iv (min (intOf (cf .f64 r80)) (n - 2)))]) cal44 (evs rfl) (c_spec_l00Max 0 (min (intOf (cf .f64 r80)) (n - 2)) _)) ?_; rintro _ w87 ⟨E86, rfl⟩
    have X88 := Ext.gr X85 E86
    show wpList _ _ _ _ (fr [(Fl p_), (Fl low), (Fl st_), (Iv n), Ud, Ud, Ud, Ud, (Iv 0), (Fl 0), (Fl (FloatKind.f32.nearest (n - 1))), Ud, (Fl p_), (Fl low), (Fl r3), (Fl st_), (Fl r8), (Fl r8), (Bo (fcmp .lss (ford .f32 (cf .f32 r8) (cf .f32 0)))), (Fl r8), (Iv n), (Iv (n - 1)), (Fl (FloatKind.f32.nearest (n - 1))), (Bo (fcmp .gtr (ford .f32 (cf .f32 r8) (cf .f32 (FloatKind.f32.nearest (n - 1)))))), (Iv n), (Iv (n - 1)), (Fl (FloatKind.f32.nearest (n - 1))), (Fl (FloatKind.f32.nearest (n - 1))), (Fd r73), (Fd r80), (Iv (intOf (cf .f64 r80))), (Iv n), (Iv (n - 2)), (Iv (min (intOf (cf .f64 r80)) (n - 2))), (Iv (max (min (intOf (cf .f64 r80)) (n - 2)) 0)), Ud, Ud, Ud, Ud, Ud]) _
    refine q_is rfl rfl (does_assign (u := (Iv (max (min (intOf (cf .f64 r80)) (n - 2)) 0))) (ev rfl)) (by dsimp only [List.set]; try rfl) ?_
    refine wpList_nil (hK72 _ _ ?_)
    refine wp_seq_k fun K89 hK89 => ?_
    refine wp_region_lit ?_
    refine q_is rfl rfl (does_move (u := (Iv (max (min (intOf (cf .f64 r80)) (n - 2)) 0))) (ev rfl)) (by dsimp only [List.set]; try rfl) ?_
    refine q_is rfl rfl (does_move (u := (Fl (FloatKind.f32.nearest (n - 1)))) (ev rfl)) (by dsimp only [List.set]; try rfl) ?_
    refine q_is rfl rfl (does_move (u := (Iv (max (min (intOf (cf .f64 r80)) (n - 2)) 0))) (ev rfl)) (by dsimp only [List.set]; try rfl) ?_
    refine q_is rfl rfl (does_conv_if (k := .f32) Try.underlying2 Try.underlying22 (ev rfl)) (by dsimp only [List.set]; try rfl) ?_
    refine seqd rfl rfl (does_float (.inr (.inl rfl)) (ev rfl) (ev rfl)) ?_; rintro _ w93 ⟨r90, rfl, h91, E92⟩
    have X94 := Ext.gr X88 E92
    show wpList _ _ _ _ (fr [(Fl p_), (Fl low), (Fl st_), (Iv n), Ud, Ud, Ud, Ud, (Iv 0), (Fl 0), (Fl (FloatKind.f32.nearest (n - 1))), (Iv (max (min (intOf (cf .f64 r80)) (n - 2)) 0)), (Fl p_), (Fl low), (Fl r3), (Fl st_), (Fl r8), (Fl r8), (Bo (fcmp .lss (ford .f32 (cf .f32 r8) (cf .f32 0)))), (Fl r8), (Iv n), (Iv (n - 1)), (Fl (FloatKind.f32.nearest (n - 1))), (Bo (fcmp .gtr (ford .f32 (cf .f32 r8) (cf .f32 (FloatKind.f32.nearest (n - 1)))))), (Iv n), (Iv (n - 1)), (Fl (FloatKind.f32.nearest (n - 1))), (Fl (FloatKind.f32.nearest (n - 1))), (Fd r73), (Fd r80), (Iv (intOf (cf .f64 r80))), (Iv n), (Iv (n - 2)), (Iv (min (intOf (cf .f64 r80)) (n - 2))), (Iv (max (min (intOf (cf .f64 r80)) (n - 2)) 0)), (Iv (max (min (intOf (cf .f64 r80)) (n - 2)) 0)), (Fl (FloatKind.f32.nearest (n - 1))), (Iv (max (min (intOf (cf .f64 r80)) (n - 2)) 0)), (Fl (FloatKind.f32.nearest (max (min (intOf (cf .f64 r80)) (n - 2)) 0))), (Fl r90)]) _
    refine q_is rfl rfl (does_assign (u := (Iv (max (min (intOf (cf .f64 r80)) (n - 2)) 0))) (ev rfl)) (by dsimp only [List.set]; try rfl) ?_
    refine q_is rfl rfl (does_assign (u := (Fl r90)) (ev rfl)) (by dsimp only [List.set]; try rfl) ?_
    refine wpList_nil (hK89 _ _ ?_)
    refine wp_ret ?_
    refine ret_val (v := (.tuple #[(Iv (max (min (intOf (cf .f64 r80)) (n - 2)) 0)), (Fl r90)])) (res_TT rfl (slot rfl) (slot rfl)) X94 ?_
    try simp only [h4, h9, h74, h81, h91] at c15 c71
    have x95 : (cellI (cf .f32 p_) (cf .f32 low) (cf .f32 st_) n : Int) = (max (min (intOf (cf .f64 r80)) (n - 2)) 0) := by first | rfl | (simp only [cellI, cellF, cellU, nrF, h4, h9, h74, h81, h91, c15, c71, if_true, if_false, Bool.false_eq_true, ↓reduceIte]; done) | (simp only [cellI, cellF, cellU, nrF, h4, h9, h74, h81, h91, c15, c71, if_true, if_false, Bool.false_eq_true, ↓reduceIte]; rfl)
    have x96 : cf .f32 r90 = cellF (cf .f32 p_) (cf .f32 low) (cf .f32 st_) n := by first | rfl | (simp only [cellI, cellF, cellU, nrF, h4, h9, h74, h81, h91, c15, c71, if_true, if_false, Bool.false_eq_true, ↓reduceIte]; done) | (simp only [cellI, cellF, cellU, nrF, h4, h9, h74, h81, h91, c15, c71, if_true, if_false, Bool.false_eq_true, ↓reduceIte]; rfl)
    exact ⟨r90, (by first | rfl | rw [x95]), x96⟩
  have c71' := c71
  (try simp only [h4, h9] at c71)
  refine wp_skip (hK69 _ _ ?_)
  refine wp_seq_k fun K97 hK97 => ?_
  refine wp_region_lit ?_
  refine q_is rfl rfl (does_move (u := (Fl r8)) (ev rfl)) (by dsimp only [List.set]; try rfl) ?_
  refine seqd rfl rfl (does_widen Try.underlying22 Try.underlying37 (ev rfl)) ?_; rintro _ w101 ⟨r98, rfl, h99, E100⟩
  have X102 := Ext.gr X12 E100
  show wpList _ _ _ _ (fr [(Fl p_), (Fl low), (Fl st_), (Iv n), Ud, Ud, Ud, Ud, (Iv 0), (Fl 0), (Fl r8), Ud, (Fl p_), (Fl low), (Fl r3), (Fl st_), (Fl r8), (Fl r8), (Bo (fcmp .lss (ford .f32 (cf .f32 r8) (cf .f32 0)))), (Fl r8), (Iv n), (Iv (n - 1)), (Fl (FloatKind.f32.nearest (n - 1))), (Bo (fcmp .gtr (ford .f32 (cf .f32 r8) (cf .f32 (FloatKind.f32.nearest (n - 1)))))), Ud, Ud, Ud, (Fl r8), (Fd r98), Ud, Ud, Ud, Ud, Ud, Ud, Ud, Ud, Ud, Ud, Ud]) _
  refine seqd rfl rfl (does_call (args := #[(Fd r98)]) cal45 (evs rfl) (c_math_Floor r98 _)) ?_; rintro _ w104 ⟨E103, ⟨r105, rfl, h106⟩⟩
  have X107 := Ext.gr X102 E103
  show wpList _ _ _ _ (fr [(Fl p_), (Fl low), (Fl st_), (Iv n), Ud, Ud, Ud, Ud, (Iv 0), (Fl 0), (Fl r8), Ud, (Fl p_), (Fl low), (Fl r3), (Fl st_), (Fl r8), (Fl r8), (Bo (fcmp .lss (ford .f32 (cf .f32 r8) (cf .f32 0)))), (Fl r8), (Iv n), (Iv (n - 1)), (Fl (FloatKind.f32.nearest (n - 1))), (Bo (fcmp .gtr (ford .f32 (cf .f32 r8) (cf .f32 (FloatKind.f32.nearest (n - 1)))))), Ud, Ud, Ud, (Fl r8), (Fd r98), (Fd r105), Ud, Ud, Ud, Ud, Ud, Ud, Ud, Ud, Ud, Ud]) _
  refine q_is rfl rfl (does_conv_fi (p := r105) Try.underlying37 Try.underlying2 (ev rfl) (by first | assumption | (simp only [h4, h9, h99, h106]; first | assumption | exact (by have hz := hin; simp only [cellU, nrF, h4, h9, h99, h106, c15, c71, if_true, if_false, Bool.false_eq_true, ↓reduceIte] at hz; exact hz)))) (by dsimp only [List.set]; try rfl) ?_
  refine q_is rfl rfl (does_move (u := (Iv n)) (ev rfl)) (by dsimp only [List.set]; try rfl) ?_
  refine q_is rfl rfl (does_iarith (p := n) (q := 2) (r := n - 2) (ev rfl) (ev rfl) (.inr (.inl ⟨rfl, (in_i64 (by omega) (by omega)).symm⟩))) (by dsimp only [List.set]; try rfl) ?_
  refine seqd rfl rfl (does_call (args := #[(Iv (intOf (cf .f64 r105))), (Iv (n - 2))]) cal31 (evs rfl) (c_spec_l00Min (intOf (cf .f64 r105)) (n - 2) _)) ?_; rintro _ w109 ⟨E108, rfl⟩
  have X110 := Ext.gr X107 E108
  show wpList _ _ _ _ (fr [(Fl p_), (Fl low), (Fl st_), (Iv n), Ud, Ud, Ud, Ud, (Iv 0), (Fl 0), (Fl r8), Ud, (Fl p_), (Fl low), (Fl r3), (Fl st_), (Fl r8), (Fl r8), (Bo (fcmp .lss (ford .f32 (cf .f32 r8) (cf .f32 0)))), (Fl r8), (Iv n), (Iv (n - 1)), (Fl (FloatKind.f32.nearest (n - 1))), (Bo (fcmp .gtr (ford .f32 (cf .f32 r8) (cf .f32 (FloatKind.f32.nearest (n - 1)))))), Ud, Ud, Ud, (Fl r8), (Fd r98), (Fd r105), (Iv (intOf (cf .f64 r105))), (Iv n), (Iv (n - 2)), (Iv (min (intOf (cf .f64 r105)) (n - 2))), Ud, Ud, Ud, Ud, Ud, Ud]) _
  refine seqd rfl rfl (does_call (args := #[(Iv 0), (Iv (min (intOf (cf .f64 r105)) (n - 2)))]) cal44 (evs rfl) (c_spec_l00Max 0 (min (intOf (cf .f64 r105)) (n - 2)) _)) ?_; rintro _ w112 ⟨E111, rfl⟩
  have X113 := Ext.gr X110 E111
  show wpList _ _ _ _ (fr [(Fl p_), (Fl low), (Fl st_), (Iv n), Ud, Ud, Ud, Ud, (Iv 0), (Fl 0), (Fl r8), Ud, (Fl p_), (Fl low), (Fl r3), (Fl st_), (Fl r8), (Fl r8), (Bo (fcmp .lss (ford .f32 (cf .f32 r8) (cf .f32 0)))), (Fl r8), (Iv n), (Iv (n - 1)), (Fl (FloatKind.f32.nearest (n - 1))), (Bo (fcmp .gtr (ford .f32 (cf .f32 r8) (cf .f32 (FloatKind.f32.nearest (n - 1)))))), Ud, Ud, Ud, (Fl r8), (Fd r98), (Fd r105), (Iv (intOf (cf .f64 r105))), (Iv n), (Iv (n - 2)), (Iv (min (intOf (cf .f64 r105)) (n - 2))), (Iv (max (min (intOf (cf .f64 r105)) (n - 2)) 0)), Ud, Ud, Ud, Ud, Ud]) _
  refine q_is rfl rfl (does_assign (u := (Iv (max (min (intOf (cf .f64 r105)) (n - 2)) 0))) (ev rfl)) (by dsimp only [List.set]; try rfl) ?_
  refine wpList_nil (hK97 _ _ ?_)
  refine wp_seq_k fun K114 hK114 => ?_
  refine wp_region_lit ?_
  refine q_is rfl rfl (does_move (u := (Iv (max (min (intOf (cf .f64 r105)) (n - 2)) 0))) (ev rfl)) (by dsimp only [List.set]; try rfl) ?_
  refine q_is rfl rfl (does_move (u := (Fl r8)) (ev rfl)) (by dsimp only [List.set]; try rfl) ?_
  refine q_is rfl rfl (does_move (u := (Iv (max (min (intOf (cf .f64 r105)) (n - 2)) 0))) (ev rfl)) (by dsimp only [List.set]; try rfl) ?_
  refine q_is rfl rfl (does_conv_if (k := .f32) Try.underlying2 Try.underlying22 (ev rfl)) (by dsimp only [List.set]; try rfl) ?_
  refine seqd rfl rfl (does_float (.inr (.inl rfl)) (ev rfl) (ev rfl)) ?_; rintro _ w118 ⟨r115, rfl, h116, E117⟩
  have X119 := Ext.gr X113 E117
  show wpList _ _ _ _ (fr [(Fl p_), (Fl low), (Fl st_), (Iv n), Ud, Ud, Ud, Ud, (Iv 0), (Fl 0), (Fl r8), (Iv (max (min (intOf (cf .f64 r105)) (n - 2)) 0)), (Fl p_), (Fl low), (Fl r3), (Fl st_), (Fl r8), (Fl r8), (Bo (fcmp .lss (ford .f32 (cf .f32 r8) (cf .f32 0)))), (Fl r8), (Iv n), (Iv (n - 1)), (Fl (FloatKind.f32.nearest (n - 1))), (Bo (fcmp .gtr (ford .f32 (cf .f32 r8) (cf .f32 (FloatKind.f32.nearest (n - 1)))))), Ud, Ud, Ud, (Fl r8), (Fd r98), (Fd r105), (Iv (intOf (cf .f64 r105))), (Iv n), (Iv (n - 2)), (Iv (min (intOf (cf .f64 r105)) (n - 2))), (Iv (max (min (intOf (cf .f64 r105)) (n - 2)) 0)), (Iv (max (min (intOf (cf .f64 r105)) (n - 2)) 0)), (Fl r8), (Iv (max (min (intOf (cf .f64 r105)) (n - 2)) 0)), (Fl (FloatKind.f32.nearest (max (min (intOf (cf .f64 r105)) (n - 2)) 0))), (Fl r115)]) _
  refine q_is rfl rfl (does_assign (u := (Iv (max (min (intOf (cf .f64 r105)) (n - 2)) 0))) (ev rfl)) (by dsimp only [List.set]; try rfl) ?_
  refine q_is rfl rfl (does_assign (u := (Fl r115)) (ev rfl)) (by dsimp only [List.set]; try rfl) ?_
  refine wpList_nil (hK114 _ _ ?_)
  refine wp_ret ?_
  refine ret_val (v := (.tuple #[(Iv (max (min (intOf (cf .f64 r105)) (n - 2)) 0)), (Fl r115)])) (res_TT rfl (slot rfl) (slot rfl)) X119 ?_
  try simp only [h4, h9, h99, h106, h116] at c15 c71
  have x120 : (cellI (cf .f32 p_) (cf .f32 low) (cf .f32 st_) n : Int) = (max (min (intOf (cf .f64 r105)) (n - 2)) 0) := by first | rfl | (simp only [cellI, cellF, cellU, nrF, h4, h9, h99, h106, h116, c15, c71, if_true, if_false, Bool.false_eq_true, ↓reduceIte]; done) | (simp only [cellI, cellF, cellU, nrF, h4, h9, h99, h106, h116, c15, c71, if_true, if_false, Bool.false_eq_true, ↓reduceIte]; rfl)
  have x121 : cf .f32 r115 = cellF (cf .f32 p_) (cf .f32 low) (cf .f32 st_) n := by first | rfl | (simp only [cellI, cellF, cellU, nrF, h4, h9, h99, h106, h116, c15, c71, if_true, if_false, Bool.false_eq_true, ↓reduceIte]; done) | (simp only [cellI, cellF, cellU, nrF, h4, h9, h99, h106, h116, c15, c71, if_true, if_false, Bool.false_eq_true, ↓reduceIte]; rfl)
  exact ⟨r115, (by first | rfl | rw [x120]), x121⟩

/- (*impl.Grid).cell -/
theorem c_impl_Grid_cell (g_b : Nat) (g_o : Nat) (g : List Value) (A_g : GridT) (p_ : Nat) (low : Nat) (n : Int) (w : World) (hc_g : Cells w g_b g_o g) (hv_g : RGridT w A_g g) (hin : inR (ffloor (fwid (cellU (cf .f32 p_) (cf .f32 low) A_g.step n)))) (hn : 1 ≤ n ∧ n ≤ 16) : Gives Try.prog 38 #[(Pt g_b g_o), (Fl p_), (Fl low), (Iv n)] w (fun v w' => ∃ r_1 : Nat, v = (.tuple #[(Iv (cellI (cf .f32 p_) (cf .f32 low) A_g.step n)), (Iv (min (cellI (cf .f32 p_) (cf .f32 low) A_g.step n + 1) (n - 1))), (Fl r_1)]) ∧ cf .f32 r_1 = cellF (cf .f32 p_) (cf .f32 low) A_g.step n) := by
  obtain ⟨r1, r3, r5, r7, y9, rfl, h2, h4, h6, h8, h10⟩ := hv_g
  have hs13 := h10; have hs13l := Sl.len h10; obtain ⟨p11, q12, rfl⟩ := Sl.shape h10
  refine enter [(Pt g_b g_o), (Fl p_), (Fl low), (Iv n), Ud, Ud, Ud, Ud, Ud, Ud, Ud, Ud, Ud, Ud, Ud, Ud, Ud, Ud, Ud, Ud, Ud, Ud, Ud, Ud, Ud, Ud, Ud, Ud, Ud, Ud, Ud, Ud, Ud, Ud, Ud, Ud, Ud, Ud, Ud, Ud, Ud, Ud, Ud, Ud, Ud, Ud, Ud, Ud, Ud] Try.func38 rfl Try.ntmps38 rfl ?_
  refine wp_seq_k fun K14 hK14 => ?_
  refine wp_region_lit ?_
  refine q_is rfl rfl (does_assign (u := (Iv 0)) (ev rfl)) (by dsimp only [List.set]; try rfl) ?_
  refine q_is rfl rfl (does_assign (u := (Iv 0)) (ev rfl)) (by dsimp only [List.set]; try rfl) ?_
  refine q_is rfl rfl (does_assign (u := (Fl 0)) (ev rfl)) (by dsimp only [List.set]; try rfl) ?_
  refine wpList_nil (hK14 _ _ ?_)
  refine wp_seq_k fun K15 hK15 => ?_
  refine wp_region_lit ?_
  refine q_is rfl rfl (does_move (u := (Fl p_)) (ev rfl)) (by dsimp only [List.set]; try rfl) ?_
  refine q_is rfl rfl (does_move (u := (Fl low)) (ev rfl)) (by dsimp only [List.set]; try rfl) ?_
  refine seqd rfl rfl (does_float (.inr (.inl rfl)) (ev rfl) (ev rfl)) ?_; rintro _ w19 ⟨r16, rfl, h17, E18⟩
  have X20 := Ext.gr (Ext.refl w) E18
  show wpList _ _ _ _ (fr [(Pt g_b g_o), (Fl p_), (Fl low), (Iv n), Ud, Ud, Ud, Ud, (Iv 0), (Iv 0), (Fl 0), Ud, Ud, Ud, (Fl p_), (Fl low), (Fl r16), Ud, Ud, Ud, Ud, Ud, Ud, Ud, Ud, Ud, Ud, Ud, Ud, Ud, Ud, Ud, Ud, Ud, Ud, Ud, Ud, Ud, Ud, Ud, Ud, Ud, Ud, Ud, Ud, Ud, Ud, Ud, Ud]) _
  refine q_is rfl rfl (does_move (u := (Pt g_b g_o)) (ev rfl)) (by dsimp only [List.set]; try rfl) ?_
  refine q_is rfl rfl (does_nilCheck (ev rfl)) (by dsimp only [List.set]; try rfl) ?_
  refine q_is rfl rfl (does_fieldAddr (ev rfl) fa33_1) (by dsimp only [List.set]; try rfl) ?_
  refine q_is rfl rfl (does_load (u := (Fl r7)) (ev rfl) Try.isAgg22 (Cells.at (hc_g.ext X20) 3 rfl)) (by dsimp only [List.set]; try rfl) ?_
  refine seqd rfl rfl (does_float (.inr (.inr (.inr rfl))) (ev rfl) (ev rfl)) ?_; rintro _ w24 ⟨r21, rfl, h22, E23⟩
  have X25 := Ext.gr X20 E23
  show wpList _ _ _ _ (fr [(Pt g_b g_o), (Fl p_), (Fl low), (Iv n), Ud, Ud, Ud, Ud, (Iv 0), (Iv 0), (Fl 0), Ud, Ud, Ud, (Fl p_), (Fl low), (Fl r16), (Pt g_b g_o), (Pt g_b g_o), (Pt g_b (g_o + 3)), (Fl r7), (Fl r21), Ud, Ud, Ud, Ud, Ud, Ud, Ud, Ud, Ud, Ud, Ud, Ud, Ud, Ud, Ud, Ud, Ud, Ud, Ud, Ud, Ud, Ud, Ud, Ud, Ud, Ud, Ud]) _
  refine q_is rfl rfl (does_move (u := (Iv n)) (ev rfl)) (by dsimp only [List.set]; try rfl) ?_
  refine q_is rfl rfl (does_iarith (p := n) (q := 1) (r := n - 1) (ev rfl) (ev rfl) (.inr (.inl ⟨rfl, (in_i64 (by omega) (by omega)).symm⟩))) (by dsimp only [List.set]; try rfl) ?_
  refine q_is rfl rfl (does_conv_if (k := .f32) Try.underlying2 Try.underlying22 (ev rfl)) (by dsimp only [List.set]; try rfl) ?_
  refine q_is rfl rfl (does_assign (u := (Fl r21)) (ev rfl)) (by dsimp only [List.set]; try rfl) ?_
  refine q_is rfl rfl (does_assign (u := (Fl (FloatKind.f32.nearest (n - 1)))) (ev rfl)) (by dsimp only [List.set]; try rfl) ?_
  refine wpList_nil (hK15 _ _ ?_)
  refine wp_seq_k fun K26 hK26 => ?_
  refine wp_seq_k fun K27 hK27 => ?_
  refine wp_region_lit ?_
  refine q_is rfl rfl (does_move (u := (Fl r21)) (ev rfl)) (by dsimp only [List.set]; try rfl) ?_
  refine q_is rfl rfl (does_fcmp (.inr (.inr (.inl rfl))) (ev rfl) (ev rfl)) (by dsimp only [List.set]; try rfl) ?_
  refine wpList_nil (hK27 _ _ ?_)
  refine wp_cond_split (t := fcmp .lss (ford .f32 (cf .f32 r21) (cf .f32 0))) (ev rfl) (fun c28 => ?_) (fun c28 => ?_)
  · have c28' := c28
    (try simp only [h2, h4, h6, h8, h17, h22] at c28)
    refine wp_region_lit ?_
    refine q_is rfl rfl (does_assign (u := (Fl 0)) (ev rfl)) (by dsimp only [List.set]; try rfl) ?_
    refine wpList_nil (hK26 _ _ ?_)
    refine wp_seq_k fun K29 hK29 => ?_
    refine wp_seq_k fun K30 hK30 => ?_
    refine wp_region_lit ?_
    refine q_is rfl rfl (does_move (u := (Fl 0)) (ev rfl)) (by dsimp only [List.set]; try rfl) ?_
    refine q_is rfl rfl (does_move (u := (Fl (FloatKind.f32.nearest (n - 1)))) (ev rfl)) (by dsimp only [List.set]; try rfl) ?_
    refine q_is rfl rfl (does_fcmp (.inr (.inr (.inr (.inr (.inl rfl))))) (ev rfl) (ev rfl)) (by dsimp only [List.set]; try rfl) ?_
    refine wpList_nil (hK30 _ _ ?_)
    refine wp_cond_split (t := fcmp .gtr (ford .f32 (cf .f32 0) (cf .f32 (FloatKind.f32.nearest (n - 1))))) (ev rfl) (fun c31 => ?_) (fun c31 => ?_)
    · have c31' := c31
      (try simp only [h2, h4, h6, h8, h17, h22] at c31)
      refine wp_region_lit ?_
      refine q_is rfl rfl (does_move (u := (Fl (FloatKind.f32.nearest (n - 1)))) (ev rfl)) (by dsimp only [List.set]; try rfl) ?_
      refine q_is rfl rfl (does_assign (u := (Fl (FloatKind.f32.nearest (n - 1)))) (ev rfl)) (by dsimp only [List.set]; try rfl) ?_
      refine wpList_nil (hK29 _ _ ?_)
      refine wp_seq_k fun K32 hK32 => ?_
      refine wp_region_lit ?_
      refine q_is rfl rfl (does_move (u := (Fl (FloatKind.f32.nearest (n - 1)))) (ev rfl)) (by dsimp only [List.set]; try rfl) ?_
      refine seqd rfl rfl (does_widen Try.underlying22 Try.underlying37 (ev rfl)) ?_; rintro _ w36 ⟨r33, rfl, h34, E35⟩
      have X37 := Ext.gr X25 E35
      show wpList _ _ _ _ (fr [(Pt g_b g_o), (Fl p_), (Fl low), (Iv n), Ud, Ud, Ud, Ud, (Iv 0), (Iv 0), (Fl 0), (Fl (FloatKind.f32.nearest (n - 1))), (Fl (FloatKind.f32.nearest (n - 1))), Ud, (Fl p_), (Fl low), (Fl r16), (Pt g_b g_o), (Pt g_b g_o), (Pt g_b (g_o + 3)), (Fl r7), (Fl r21), (Iv n), (Iv (n - 1)), (Fl (FloatKind.f32.nearest (n - 1))), (Fl r21), (Bo (fcmp .lss (ford .f32 (cf .f32 r21) (cf .f32 0)))), (Fl 0), (Fl (FloatKind.f32.nearest (n - 1))), (Bo (fcmp .gtr (ford .f32 (cf .f32 0) (cf .f32 (FloatKind.f32.nearest (n - 1)))))), (Fl (FloatKind.f32.nearest (n - 1))), (Fl (FloatKind.f32.nearest (n - 1))), (Fd r33), Ud, Ud, Ud, Ud, Ud, Ud, Ud, Ud, Ud, Ud, Ud, Ud, Ud, Ud, Ud, Ud]) _
      refine seqd rfl rfl (does_call (args := #[(Fd r33)]) cal45 (evs rfl) (c_math_Floor r33 _)) ?_; rintro _ w39 ⟨E38, ⟨r40, rfl, h41⟩⟩
      have X42 := Ext.gr X37 E38
      show wpList _ _ _ _ (fr [(Pt g_b g_o), (Fl p_), (Fl low), (Iv n), Ud, Ud, Ud, Ud, (Iv 0), (Iv 0), (Fl 0), (Fl (FloatKind.f32.nearest (n - 1))), (Fl (FloatKind.f32.nearest (n - 1))), Ud, (Fl p_), (Fl low), (Fl r16), (Pt g_b g_o), (Pt g_b g_o), (Pt g_b (g_o + 3)), (Fl r7), (Fl r21), (Iv n), (Iv (n - 1)), (Fl (FloatKind.f32.nearest (n - 1))), (Fl r21), (Bo (fcmp .lss (ford .f32 (cf .f32 r21) (cf .f32 0)))), (Fl 0), (Fl (FloatKind.f32.nearest (n - 1))), (Bo (fcmp .gtr (ford .f32 (cf .f32 0) (cf .f32 (FloatKind.f32.nearest (n - 1)))))), (Fl (FloatKind.f32.nearest (n - 1))), (Fl (FloatKind.f32.nearest (n - 1))), (Fd r33), (Fd r40), Ud, Ud, Ud, Ud, Ud, Ud, Ud, Ud, Ud, Ud, Ud, Ud, Ud, Ud, Ud]) _
      refine q_is rfl rfl (does_conv_fi (p := r40) Try.underlying37 Try.underlying2 (ev rfl) (by first | assumption | (simp only [h2, h4, h6, h8, h17, h22, h34, h41]; first | assumption | exact (by have hz := hin; simp only [cellU, nrF, h2, h4, h6, h8, h17, h22, h34, h41, c28, c31, if_true, if_false, Bool.false_eq_true, ↓reduceIte] at hz; exact hz)))) (by dsimp only [List.set]; try rfl) ?_
      refine q_is rfl rfl (does_move (u := (Iv n)) (ev rfl)) (by dsimp only [List.set]; try rfl) ?_
      refine q_is rfl rfl (does_iarith (p := n) (q := 2) (r := n - 2) (ev rfl) (ev rfl) (.inr (.inl ⟨rfl, (in_i64 (by omega) (by omega)).symm⟩))) (by dsimp only [List.set]; try rfl) ?_
      refine q_is rfl rfl (does_min (p := intOf (cf .f64 r40)) (q := n - 2) Try.underlying2 (ev rfl) (ev rfl)) (by dsimp only [List.set]; try rfl) ?_
      refine q_is rfl rfl (does_max (p := (min (intOf (cf .f64 r40)) (n - 2))) (q := 0) Try.underlying2 (ev rfl) (ev rfl)) (by dsimp only [List.set]; try rfl) ?_
      refine q_is rfl rfl (does_assign (u := (Iv (max (min (intOf (cf .f64 r40)) (n - 2)) 0))) (ev rfl)) (by dsimp only [List.set]; try rfl) ?_
      refine wpList_nil (hK32 _ _ ?_)
      refine wp_seq_k fun K43 hK43 => ?_
      refine wp_region_lit ?_
      refine q_is rfl rfl (does_move (u := (Iv (max (min (intOf (cf .f64 r40)) (n - 2)) 0))) (ev rfl)) (by dsimp only [List.set]; try rfl) ?_
      refine q_is rfl rfl (does_move (u := (Iv (max (min (intOf (cf .f64 r40)) (n - 2)) 0))) (ev rfl)) (by dsimp only [List.set]; try rfl) ?_
      refine q_is rfl rfl (does_iarith (p := (max (min (intOf (cf .f64 r40)) (n - 2)) 0)) (q := 1) (r := (max (min (intOf (cf .f64 r40)) (n - 2)) 0) + 1) (ev rfl) (ev rfl) (.inl ⟨rfl, (in_i64 (by omega) (by omega)).symm⟩)) (by dsimp only [List.set]; try rfl) ?_
      refine q_is rfl rfl (does_move (u := (Iv n)) (ev rfl)) (by dsimp only [List.set]; try rfl) ?_
      refine q_is rfl rfl (does_iarith (p := n) (q := 1) (r := n - 1) (ev rfl) (ev rfl) (.inr (.inl ⟨rfl, (in_i64 (by omega) (by omega)).symm⟩))) (by dsimp only [List.set]; try rfl) ?_
      refine q_is rfl rfl (does_min (p := (max (min (intOf (cf .f64 r40)) (n - 2)) 0) + 1) (q := n - 1) Try.underlying2 (ev rfl) (ev rfl)) (by dsimp only [List.set]; try rfl) ?_
      refine q_is rfl rfl (does_move (u := (Fl (FloatKind.f32.nearest (n - 1)))) (ev rfl)) (by dsimp only [List.set]; try rfl) ?_
      refine q_is rfl rfl (does_move (u := (Iv (max (min (intOf (cf .f64 r40)) (n - 2)) 0))) (ev rfl)) (by dsimp only [List.set]; try rfl) ?_
      refine q_is rfl rfl (does_conv_if (k := .f32) Try.underlying2 Try.underlying22 (ev rfl)) (by dsimp only [List.set]; try rfl) ?_
      refine seqd rfl rfl (does_float (.inr (.inl rfl)) (ev rfl) (ev rfl)) ?_; rintro _ w47 ⟨r44, rfl, h45, E46⟩
      have X48 := Ext.gr X42 E46
      show wpList _ _ _ _ (fr [(Pt g_b g_o), (Fl p_), (Fl low), (Iv n), Ud, Ud, Ud, Ud, (Iv 0), (Iv 0), (Fl 0), (Fl (FloatKind.f32.nearest (n - 1))), (Fl (FloatKind.f32.nearest (n - 1))), (Iv (max (min (intOf (cf .f64 r40)) (n - 2)) 0)), (Fl p_), (Fl low), (Fl r16), (Pt g_b g_o), (Pt g_b g_o), (Pt g_b (g_o + 3)), (Fl r7), (Fl r21), (Iv n), (Iv (n - 1)), (Fl (FloatKind.f32.nearest (n - 1))), (Fl r21), (Bo (fcmp .lss (ford .f32 (cf .f32 r21) (cf .f32 0)))), (Fl 0), (Fl (FloatKind.f32.nearest (n - 1))), (Bo (fcmp .gtr (ford .f32 (cf .f32 0) (cf .f32 (FloatKind.f32.nearest (n - 1)))))), (Fl (FloatKind.f32.nearest (n - 1))), (Fl (FloatKind.f32.nearest (n - 1))), (Fd r33), (Fd r40), (Iv (intOf (cf .f64 r40))), (Iv n), (Iv (n - 2)), (Iv (min (intOf (cf .f64 r40)) (n - 2))), (Iv (max (min (intOf (cf .f64 r40)) (n - 2)) 0)), (Iv (max (min (intOf (cf .f64 r40)) (n - 2)) 0)), (Iv (max (min (intOf (cf .f64 r40)) (n - 2)) 0)), (Iv ((max (min (intOf (cf .f64 r40)) (n - 2)) 0) + 1)), (Iv n), (Iv (n - 1)), (Iv (min ((max (min (intOf (cf .f64 r40)) (n - 2)) 0) + 1) (n - 1))), (Fl (FloatKind.f32.nearest (n - 1))), (Iv (max (min (intOf (cf .f64 r40)) (n - 2)) 0)), (Fl (FloatKind.f32.nearest (max (min (intOf (cf .f64 r40)) (n - 2)) 0))), (Fl r44)]) _
      refine q_is rfl rfl (does_assign (u := (Iv (max (min (intOf (cf .f64 r40)) (n - 2)) 0))) (ev rfl)) (by dsimp only [List.set]; try rfl) ?_
      refine q_is rfl rfl (does_assign (u := (Iv (min ((max (min (intOf (cf .f64 r40)) (n - 2)) 0) + 1) (n - 1)))) (ev rfl)) (by dsimp only [List.set]; try rfl) ?_
      refine q_is rfl rfl (does_assign (u := (Fl r44)) (ev rfl)) (by dsimp only [List.set]; try rfl) ?_
      refine wpList_nil (hK43 _ _ ?_)
      refine wp_ret ?_
      refine ret_val (v := (.tuple #[(Iv (max (min (intOf (cf .f64 r40)) (n - 2)) 0)), (Iv (min ((max (min (intOf (cf .f64 r40)) (n - 2)) 0) + 1) (n - 1))), (Fl r44)])) (res_TTT rfl (slot rfl) (slot rfl) (slot rfl)) X48 ?_
      try simp only [h2, h4, h6, h8, h17, h22, h34, h41, h45] at c28 c31
      have x49 : (cellI (cf .f32 p_) (cf .f32 low) A_g.step n : Int) = (max (min (intOf (cf .f64 r40)) (n - 2)) 0) := by first | rfl | (simp only [cellI, cellF, cellU, nrF, h2, h4, h6, h8, h17, h22, h34, h41, h45, c28, c31, if_true, if_false, Bool.false_eq_true, ↓reduceIte]; done) | (simp only [cellI, cellF, cellU, nrF, h2, h4, h6, h8, h17, h22, h34, h41, h45, c28, c31, if_true, if_false, Bool.false_eq_true, ↓reduceIte]; rfl)
      have x50 : (min (cellI (cf .f32 p_) (cf .f32 low) A_g.step n + 1) (n - 1) : Int) = (min ((max (min (intOf (cf .f64 r40)) (n - 2)) 0) + 1) (n - 1)) := by first | rfl | (simp only [cellI, cellF, cellU, nrF, h2, h4, h6, h8, h17, h22, h34, h41, h45, c28, c31, if_true, if_false, Bool.false_eq_true, ↓reduceIte]; done) | (simp only [cellI, cellF, cellU, nrF, h2, h4, h6, h8, h17, h22, h34, h41, h45, c28, c31, if_true, if_false, Bool.false_eq_true, ↓reduceIte]; rfl)
      have x51 : cf .f32 r44 = cellF (cf .f32 p_) (cf .f32 low) A_g.step n := by first | rfl | (simp only [cellI, cellF, cellU, nrF, h2, h4, h6, h8, h17, h22, h34, h41, h45, c28, c31, if_true, if_false, Bool.false_eq_true, ↓reduceIte]; done) | (simp only [cellI, cellF, cellU, nrF, h2, h4, h6, h8, h17, h22, h34, h41, h45, c28, c31, if_true, if_false, Bool.false_eq_true, ↓reduceIte]; rfl)
      exact ⟨r44, (by first | rfl | rw [x49, x50] | rw [x50, x49]), x51⟩
    have c31' := c31
    (try simp only [h2, h4, h6, h8, h17, h22] at c31)
    refine wp_skip (hK29 _ _ ?_)
    refine wp_seq_k fun K52 hK52 => ?_
    refine wp_region_lit ?_
    refine q_is rfl rfl (does_move (u := (Fl 0)) (ev rfl)) (by dsimp only [List.set]; try rfl) ?_
    refine seqd rfl rfl (does_widen Try.underlying22 Try.underlying37 (ev rfl)) ?_; rintro _ w56 ⟨r53, rfl, h54, E55⟩
    have X57 := Ext.gr X25 E55
    show wpList _ _ _ _ (fr [(Pt g_b g_o), (Fl p_), (Fl low), (Iv n), Ud, Ud, Ud, Ud, (Iv 0), (Iv 0), (Fl 0), (Fl 0), (Fl (FloatKind.f32.nearest (n - 1))), Ud, (Fl p_), (Fl low), (Fl r16), (Pt g_b g_o), (Pt g_b g_o), (Pt g_b (g_o + 3)), (Fl r7), (Fl r21), (Iv n), (Iv (n - 1)), (Fl (FloatKind.f32.nearest (n - 1))), (Fl r21), (Bo (fcmp .lss (ford .f32 (cf .f32 r21) (cf .f32 0)))), (Fl 0), (Fl (FloatKind.f32.nearest (n - 1))), (Bo (fcmp .gtr (ford .f32 (cf .f32 0) (cf .f32 (FloatKind.f32.nearest (n - 1)))))), Ud, (Fl 0), (Fd r53), Ud, Ud, Ud, Ud, Ud, Ud, Ud, Ud, Ud, Ud, Ud, Ud, Ud, Ud, Ud, Ud]) _
    refine seqd rfl rfl (does_call (args := #[(Fd r53)]) cal45 (evs rfl) (c_math_Floor r53 _)) ?_; rintro _ w59 ⟨E58, ⟨r60, rfl, h61⟩⟩
    have X62 := Ext.gr X57 E58
    show wpList _ _ _ _ (fr [(Pt g_b g_o), (Fl p_), (Fl low), (Iv n), Ud, Ud, Ud, Ud, (Iv 0), (Iv 0), (Fl 0), (Fl 0), (Fl (FloatKind.f32.nearest (n - 1))), Ud, (Fl p_), (Fl low), (Fl r16), (Pt g_b g_o), (Pt g_b g_o), (Pt g_b (g_o + 3)), (Fl r7), (Fl r21), (Iv n), (Iv (n - 1)), (Fl (FloatKind.f32.nearest (n - 1))), (Fl r21), (Bo (fcmp .lss (ford .f32 (cf .f32 r21) (cf .f32 0)))), (Fl 0), (Fl (FloatKind.f32.nearest (n - 1))), (Bo (fcmp .gtr (ford .f32 (cf .f32 0) (cf .f32 (FloatKind.f32.nearest (n - 1)))))), Ud, (Fl 0), (Fd r53), (Fd r60), Ud, Ud, Ud, Ud, Ud, Ud, Ud, Ud, Ud, Ud, Ud, Ud, Ud, Ud, Ud]) _
    refine q_is rfl rfl (does_conv_fi (p := r60) Try.underlying37 Try.underlying2 (ev rfl) (by first | assumption | (simp only [h2, h4, h6, h8, h17, h22, h54, h61]; first | assumption | exact (by have hz := hin; simp only [cellU, nrF, h2, h4, h6, h8, h17, h22, h54, h61, c28, c31, if_true, if_false, Bool.false_eq_true, ↓reduceIte] at hz; exact hz)))) (by dsimp only [List.set]; try rfl) ?_
    refine q_is rfl rfl (does_move (u := (Iv n)) (ev rfl)) (by dsimp only [List.set]; try rfl) ?_
    refine q_is rfl rfl (does_iarith (p := n) (q := 2) (r := n - 2) (ev rfl) (ev rfl) (.inr (.inl ⟨rfl, (in_i64 (by omega) (by omega)).symm⟩))) (by dsimp only [List.set]; try rfl) ?_
    refine q_is rfl rfl (does_min (p := intOf (cf .f64 r60)) (q := n - 2) Try.underlying2 (ev rfl) (ev rfl)) (by dsimp only [List.set]; try rfl) ?_
    refine q_is rfl rfl (does_max (p := (min (intOf (cf .f64 r60)) (n - 2))) (q := 0) Try.underlying2 (ev rfl) (ev rfl)) (by dsimp only [List.set]; try rfl) ?_
    refine q_is rfl rfl (does_assign (u := (Iv (max (min (intOf (cf .f64 r60)) (n - 2)) 0))) (ev rfl)) (by dsimp only [List.set]; try rfl) ?_
    refine wpList_nil (hK52 _ _ ?_)
    refine wp_seq_k fun K63 hK63 => ?_
    refine wp_region_lit ?_
    refine q_is rfl rfl (does_move (u := (Iv (max (min (intOf (cf .f64 r60)) (n - 2)) 0))) (ev rfl)) (by dsimp only [List.set]; try rfl) ?_
    refine q_is rfl rfl (does_move (u := (Iv (max (min (intOf (cf .f64 r60)) (n - 2)) 0))) (ev rfl)) (by dsimp only [List.set]; try rfl) ?_
    refine q_is rfl rfl (does_iarith (p := (max (min (intOf (cf .f64 r60)) (n - 2)) 0)) (q := 1) (r := (max (min (intOf (cf .f64 r60)) (n - 2)) 0) + 1) (ev rfl) (ev rfl) (.inl ⟨rfl, (in_i64 (by omega) (by omega)).symm⟩)) (by dsimp only [List.set]; try rfl) ?_
    refine q_is rfl rfl (does_move (u := (Iv n)) (ev rfl)) (by dsimp only [List.set]; try rfl) ?_
    refine q_is rfl rfl (does_iarith (p := n) (q := 1) (r := n - 1) (ev rfl) (ev rfl) (.inr (.inl ⟨rfl, (in_i64 (by omega) (by omega)).symm⟩))) (by dsimp only [List.set]; try rfl) ?_
    refine q_is rfl rfl (does_min (p := (max (min (intOf (cf .f64 r60)) (n - 2)) 0) + 1) (q := n - 1) Try.underlying2 (ev rfl) (ev rfl)) (by dsimp only [List.set]; try rfl) ?_
    refine q_is rfl rfl (does_move (u := (Fl 0)) (ev rfl)) (by dsimp only [List.set]; try rfl) ?_
    refine q_is rfl rfl (does_move (u := (Iv (max (min (intOf (cf .f64 r60)) (n - 2)) 0))) (ev rfl)) (by dsimp only [List.set]; try rfl) ?_
    refine q_is rfl rfl (does_conv_if (k := .f32) Try.underlying2 Try.underlying22 (ev rfl)) (by dsimp only [List.set]; try rfl) ?_
    refine seqd rfl rfl (does_float (.inr (.inl rfl)) (ev rfl) (ev rfl)) ?_; rintro _ w67 ⟨r64, rfl, h65, E66⟩
    have X68 := Ext.gr X62 E66
    show wpList _ _ _ _ (fr [(Pt g_b g_o), (Fl p_), (Fl low), (Iv n), Ud, Ud, Ud, Ud, (Iv 0), (Iv 0), (Fl 0), (Fl 0), (Fl (FloatKind.f32.nearest (n - 1))), (Iv (max (min (intOf (cf .f64 r60)) (n - 2)) 0)), (Fl p_), (Fl low), (Fl r16), (Pt g_b g_o), (Pt g_b g_o), (Pt g_b (g_o + 3)), (Fl r7), (Fl r21), (Iv n), (Iv (n - 1)), (Fl (FloatKind.f32.nearest (n - 1))), (Fl r21), (Bo (fcmp .lss (ford .f32 (cf .f32 r21) (cf .f32 0)))), (Fl 0), (Fl (FloatKind.f32.nearest (n - 1))), (Bo (fcmp .gtr (ford .f32 (cf .f32 0) (cf .f32 (FloatKind.f32.nearest (n - 1)))))), Ud, (Fl 0), (Fd r53), (Fd r60), (Iv (intOf (cf .f64 r60))), (Iv n), (Iv (n - 2)), (Iv (min (intOf (cf .f64 r60)) (n - 2))), (Iv (max (min (intOf (cf .f64 r60)) (n - 2)) 0)), (Iv (max (min (intOf (cf .f64 r60)) (n - 2)) 0)), (Iv (max (min (intOf (cf .f64 r60)) (n - 2)) 0)), (Iv ((max (min (intOf (cf .f64 r60)) (n - 2)) 0) + 1)), (Iv n), (Iv (n - 1)), (Iv (min ((max (min (intOf (cf .f64 r60)) (n - 2)) 0) + 1) (n - 1))), (Fl 0), (Iv (max (min (intOf (cf .f64 r60)) (n - 2)) 0)), (Fl (FloatKind.f32.nearest (max (min (intOf (cf .f64 r60)) (n - 2)) 0))), (Fl r64)]) _
    refine q_is rfl rfl (does_assign (u := (Iv (max (min (intOf (cf .f64 r60)) (n - 2)) 0))) (ev rfl)) (by dsimp only [List.set]; try rfl) ?_
    refine q_is rfl rfl (does_assign (u := (Iv (min ((max (min (intOf (cf .f64 r60)) (n - 2)) 0) + 1) (n - 1)))) (ev rfl)) (by dsimp only [List.set]; try rfl) ?_
    refine q_is rfl rfl (does_assign (u := (Fl r64)) (ev rfl)) (by dsimp only [List.set]; try rfl) ?_
    refine wpList_nil (hK63 _ _ ?_)
    refine wp_ret ?_
    refine ret_val (v := (.tuple #[(Iv (max (min (intOf (cf .f64 r60)) (n - 2)) 0)), (Iv (min ((max (min (intOf (cf .f64 r60)) (n - 2)) 0) + 1) (n - 1))), (Fl r64)])) (res_TTT rfl (slot rfl) (slot rfl) (slot rfl)) X68 ?_
    try simp only [h2, h4, h6, h8, h17, h22, h54, h61, h65] at c28 c31
    have x69 : (cellI (cf .f32 p_) (cf .f32 low) A_g.step n : Int) = (max (min (intOf (cf .f64 r60)) (n - 2)) 0) := by first | rfl | (simp only [cellI, cellF, cellU, nrF, h2, h4, h6, h8, h17, h22, h54, h61, h65, c28, c31, if_true, if_false, Bool.false_eq_true, ↓reduceIte]; done) | (simp only [cellI, cellF, cellU, nrF, h2, h4, h6, h8, h17, h22, h54, h61, h65, c28, c31, if_true, if_false, Bool.false_eq_true, ↓reduceIte]; rfl)
    have x70 : (min (cellI (cf .f32 p_) (cf .f32 low) A_g.step n + 1) (n - 1) : Int) = (min ((max (min (intOf (cf .f64 r60)) (n - 2)) 0) + 1) (n - 1)) := by first | rfl | (simp only [cellI, cellF, cellU, nrF, h2, h4, h6, h8, h17, h22, h54, h61, h65, c28, c31, if_true, if_false, Bool.false_eq_true, ↓reduceIte]; done) | (simp only [cellI, cellF, cellU, nrF, h2, h4, h6, h8, h17, h22, h54, h61, h65, c28, c31, if_true, if_false, Bool.false_eq_true, ↓reduceIte]; rfl)
    have x71 : cf .f32 r64 = cellF (cf .f32 p_) (cf .f32 low) A_g.step n := by first | rfl | (simp only [cellI, cellF, cellU, nrF, h2, h4, h6, h8, h17, h22, h54, h61, h65, c28, c31, if_true, if_false, Bool.false_eq_true, ↓reduceIte]; done) | (simp only [cellI, cellF, cellU, nrF, h2, h4, h6, h8, h17, h22, h54, h61, h65, c28, c31, if_true, if_false, Bool.false_eq_true, ↓reduceIte]; rfl)
    exact ⟨r64, (by first | rfl | rw [x69, x70] | rw [x70, x69]), x71⟩
  have c28' := c28
  (try simp only [h2, h4, h6, h8, h17, h22] at c28)
  refine wp_skip (hK26 _ _ ?_)
  refine wp_seq_k fun K72 hK72 => ?_
  refine wp_seq_k fun K73 hK73 => ?_
  refine wp_region_lit ?_
  refine q_is rfl rfl (does_move (u := (Fl r21)) (ev rfl)) (by dsimp only [List.set]; try rfl) ?_
  refine q_is rfl rfl (does_move (u := (Fl (FloatKind.f32.nearest (n - 1)))) (ev rfl)) (by dsimp only [List.set]; try rfl) ?_
  refine q_is rfl rfl (does_fcmp (.inr (.inr (.inr (.inr (.inl rfl))))) (ev rfl) (ev rfl)) (by dsimp only [List.set]; try rfl) ?_
  refine wpList_nil (hK73 _ _ ?_)
  refine wp_cond_split (t := fcmp .gtr (ford .f32 (cf .f32 r21) (cf .f32 (FloatKind.f32.nearest (n - 1))))) (ev rfl) (fun c74 => ?_) (fun c74 => ?_)
  · have c74' := c74
    (try simp only [h2, h4, h6, h8, h17, h22] at c74)
    refine wp_region_lit ?_
    refine q_is rfl rfl (does_move (u := (Fl (FloatKind.f32.nearest (n - 1)))) (ev rfl)) (by dsimp only [List.set]; try rfl) ?_
    refine q_is rfl rfl (does_assign (u := (Fl (FloatKind.f32.nearest (n - 1)))) (ev rfl)) (by dsimp only [List.set]; try rfl) ?_
    refine wpList_nil (hK72 _ _ ?_)
    refine wp_seq_k fun K75 hK75 => ?_
    refine wp_region_lit ?_
    refine q_is rfl rfl (does_move (u := (Fl (FloatKind.f32.nearest (n - 1)))) (ev rfl)) (by dsimp only [List.set]; try rfl) ?_
    refine seqd rfl rfl (does_widen Try.underlying22 Try.underlying37 (ev rfl)) ?_; rintro _ w79 ⟨r76, rfl, h77, E78⟩
    have X80 := Ext.gr X25 E78
    show wpList _ _ _ _ (fr [(Pt g_b g_o), (Fl p_), (Fl low), (Iv n), Ud, Ud, Ud, Ud, (Iv 0), (Iv 0), (Fl 0), (Fl (FloatKind.f32.nearest (n - 1))), (Fl (FloatKind.f32.nearest (n - 1))), Ud, (Fl p_), (Fl low), (Fl r16), (Pt g_b g_o), (Pt g_b g_o), (Pt g_b (g_o + 3)), (Fl r7), (Fl r21), (Iv n), (Iv (n - 1)), (Fl (FloatKind.f32.nearest (n - 1))), (Fl r21), (Bo (fcmp .lss (ford .f32 (cf .f32 r21) (cf .f32 0)))), (Fl r21), (Fl (FloatKind.f32.nearest (n - 1))), (Bo (fcmp .gtr (ford .f32 (cf .f32 r21) (cf .f32 (FloatKind.f32.nearest (n - 1)))))), (Fl (FloatKind.f32.nearest (n - 1))), (Fl (FloatKind.f32.nearest (n - 1))), (Fd r76), Ud, Ud, Ud, Ud, Ud, Ud, Ud, Ud, Ud, Ud, Ud, Ud, Ud, Ud, Ud, Ud]) _
    refine seqd rfl rfl (does_call (args := #[(Fd r76)]) cal45 (evs rfl) (c_math_Floor r76 _)) ?_; rintro _ w82 ⟨E81, ⟨r83, rfl, h84⟩⟩
    have X85 := Ext.gr X80 E81
    show wpList _ _ _ _ (fr [(Pt g_b g_o), (Fl p_), (Fl low), (Iv n), Ud, Ud, Ud, Ud, (Iv 0), (Iv 0), (Fl 0), (Fl (FloatKind.f32.nearest (n - 1))), (Fl (FloatKind.f32.nearest (n - 1))), Ud, (Fl p_), (Fl low), (Fl r16), (Pt g_b g_o), (Pt g_b g_o), (Pt g_b (g_o + 3)), (Fl r7), (Fl r21), (Iv n), (Iv (n - 1)), (Fl (FloatKind.f32.nearest (n - 1))), (Fl r21), (Bo (fcmp .lss (ford .f32 (cf .f32 r21) (cf .f32 0)))), (Fl r21), (Fl (FloatKind.f32.nearest (n - 1))), (Bo (fcmp .gtr (ford .f32 (cf .f32 r21) (cf .f32 (FloatKind.f32.nearest (n - 1)))))), (Fl (FloatKind.f32.nearest (n - 1))), (Fl (FloatKind.f32.nearest (n - 1))), (Fd r76), (Fd r83), Ud, Ud, Ud, Ud, Ud, Ud, Ud, Ud, Ud, Ud, Ud, Ud, Ud, Ud, Ud]) _
    refine q_is rfl rfl (does_conv_fi (p := r83) Try.underlying37 Try.underlying2 (ev rfl) (by first | assumption | (simp only [h2, h4, h6, h8, h17, h22, h77, h84]; first | assumption | exact (by have hz := hin; simp only [cellU, nrF, h2, h4, h6, h8, h17, h22, h77, h84, c28, c74, if_true, if_false, Bool.false_eq_true, ↓reduceIte] at hz; exact hz)))) (by dsimp only [List.set]; try rfl) ?_
    refine q_is rfl rfl (does_move (u := (Iv n)) (ev rfl)) (by dsimp only [List.set]; try rfl) ?_
    refine q_is rfl rfl (does_iarith (p := n) (q := 2) (r := n - 2) (ev rfl) (ev rfl) (.inr (.inl ⟨rfl, (in_i64 (by omega) (by omega)).symm⟩))) (by dsimp only [List.set]; try rfl) ?_
    refine q_is rfl rfl (does_min (p := intOf (cf .f64 r83)) (q := n - 2) Try.underlying2 (ev rfl) (ev rfl)) (by dsimp only [List.set]; try rfl) ?_
    refine q_is rfl rfl (does_max (p := (min (intOf (cf .f64 r83)) (n - 2))) (q := 0) Try.underlying2 (ev rfl) (ev rfl)) (by dsimp only [List.set]; try rfl) ?_
    refine q_is rfl rfl (does_assign (u := (Iv (max (min (intOf (cf .f64 r83)) (n - 2)) 0))) (ev rfl)) (by dsimp only [List.set]; try rfl) ?_
    refine wpList_nil (hK75 _ _ ?_)
    refine wp_seq_k fun K86 hK86 => ?_
    refine wp_region_lit ?_
    refine q_is rfl rfl (does_move (u := (Iv (max (min (intOf (cf .f64 r83)) (n - 2)) 0))) (ev rfl)) (by dsimp only [List.set]; try rfl) ?_
    refine q_is rfl rfl (does_move (u := (Iv (max (min (intOf (cf .f64 r83)) (n - 2)) 0))) (ev rfl)) (by dsimp only [List.set]; try rfl) ?_
    refine q_is rfl rfl (does_iarith (p := (max (min (intOf (cf .f64 r83)) (n - 2)) 0)) (q := 1) (r := (max (min (intOf (cf .f64 r83)) (n - 2)) 0) + 1) (ev rfl) (ev rfl) (.inl ⟨rfl, (in_i64 (by omega) (by omega)).symm⟩)) (by dsimp only [List.set]; try rfl) ?_
    refine q_is rfl rfl (does_move (u := (Iv n)) (ev rfl)) (by dsimp only [List.set]; try rfl) ?_
    refine q_is rfl rfl (does_iarith (p := n) (q := 1) (r := n - 1) (ev rfl) (ev rfl) (.inr (.inl ⟨rfl, (in_i64 (by omega) (by omega)).symm⟩))) (by dsimp only [List.set]; try rfl) ?_
    refine q_is rfl rfl (does_min (p := (max (min (intOf (cf .f64 r83)) (n - 2)) 0) + 1) (q := n - 1) Try.underlying2 (ev rfl) (ev rfl)) (by dsimp only [List.set]; try rfl) ?_
    refine q_is rfl rfl (does_move (u := (Fl (FloatKind.f32.nearest (n - 1)))) (ev rfl)) (by dsimp only [List.set]; try rfl) ?_
    refine q_is rfl rfl (does_move (u := (Iv (max (min (intOf (cf .f64 r83)) (n - 2)) 0))) (ev rfl)) (by dsimp only [List.set]; try rfl) ?_
    refine q_is rfl rfl (does_conv_if (k := .f32) Try.underlying2 Try.underlying22 (ev rfl)) (by dsimp only [List.set]; try rfl) ?_
    refine seqd rfl rfl (does_float (.inr (.inl rfl)) (ev rfl) (ev rfl)) ?_; rintro _ w90 ⟨r87, rfl, h88, E89⟩
    have X91 := Ext.gr X85 E89
    show wpList _ _ _ _ (fr [(Pt g_b g_o), (Fl p_), (Fl low), (Iv n), Ud, Ud, Ud, Ud, (Iv 0), (Iv 0), (Fl 0), (Fl (FloatKind.f32.nearest (n - 1))), (Fl (FloatKind.f32.nearest (n - 1))), (Iv (max (min (intOf (cf .f64 r83)) (n - 2)) 0)), (Fl p_), (Fl low), (Fl r16), (Pt g_b g_o), (Pt g_b g_o), (Pt g_b (g_o + 3)), (Fl r7), (Fl r21), (Iv n), (Iv (n - 1)), (Fl (FloatKind.f32.nearest (n - 1))), (Fl r21), (Bo (fcmp .lss (ford .f32 (cf .f32 r21) (cf .f32 0)))), (Fl r21), (Fl (FloatKind.f32.nearest (n - 1))), (Bo (fcmp .gtr (ford .f32 (cf .f32 r21) (cf .f32 (FloatKind.f32.nearest (n - 1)))))), (Fl (FloatKind.f32.nearest (n - 1))), (Fl (FloatKind.f32.nearest (n - 1))), (Fd r76), (Fd r83), (Iv (intOf (cf .f64 r83))), (Iv n), (Iv (n - 2)), (Iv (min (intOf (cf .f64 r83)) (n - 2))), (Iv (max (min (intOf (cf .f64 r83)) (n - 2)) 0)), (Iv (max (min (intOf (cf .f64 r83)) (n - 2)) 0)), (Iv (max (min (intOf (cf .f64 r83)) (n - 2)) 0)), (Iv ((max (min (intOf (cf .f64 r83)) (n - 2)) 0) + 1)), (Iv n), (Iv (n - 1)), (Iv (min ((max (min (intOf (cf .f64 r83)) (n - 2)) 0) + 1) (n - 1))), (Fl (FloatKind.f32.nearest (n - 1))), (Iv (max (min (intOf (cf .f64 r83)) (n - 2)) 0)), (Fl (FloatKind.f32.nearest (max (min (intOf (cf .f64 r83)) (n - 2)) 0))), (Fl r87)]) _
    refine q_is rfl rfl (does_assign (u := (Iv (max (min (intOf (cf .f64 r83)) (n - 2)) 0))) (ev rfl)) (by dsimp only [List.set]; try rfl) ?_
    refine q_is rfl rfl (does_assign (u := (Iv (min ((max (min (intOf (cf .f64 r83)) (n - 2)) 0) + 1) (n - 1)))) (ev rfl)) (by dsimp only [List.set]; try rfl) ?_
    refine q_is rfl rfl (does_assign (u := (Fl r87)) (ev rfl)) (by dsimp only [List.set]; try rfl) ?_
    refine wpList_nil (hK86 _ _ ?_)
    refine wp_ret ?_
    refine ret_val (v := (.tuple #[(Iv (max (min (intOf (cf .f64 r83)) (n - 2)) 0)), (Iv (min ((max (min (intOf (cf .f64 r83)) (n - 2)) 0) + 1) (n - 1))), (Fl r87)])) (res_TTT rfl (slot rfl) (slot rfl) (slot rfl)) X91 ?_
    try simp only [h2, h4, h6, h8, h17, h22, h77, h84, h88] at c28 c74
    have x92 : (cellI (cf .f32 p_) (cf .f32 low) A_g.step n : Int) = (max (min (intOf (cf .f64 r83)) (n - 2)) 0) := by first | rfl | (simp only [cellI, cellF, cellU, nrF, h2, h4, h6, h8, h17, h22, h77, h84, h88, c28, c74, if_true, if_false, Bool.false_eq_true, ↓reduceIte]; done) | (simp only [cellI, cellF, cellU, nrF, h2, h4, h6, h8, h17, h22, h77, h84, h88, c28, c74, if_true, if_false, Bool.false_eq_true, ↓reduceIte]; rfl)
    have x93 : (min (cellI (cf .f32 p_) (cf .f32 low) A_g.step n + 1) (n - 1) : Int) = (min ((max (min (intOf (cf .f64 r83)) (n - 2)) 0) + 1) (n - 1)) := by first | rfl | (simp only [cellI, cellF, cellU, nrF, h2, h4, h6, h8, h17, h22, h77, h84, h88, c28, c74, if_true, if_false, Bool.false_eq_true, ↓reduceIte]; done) | (simp only [cellI, cellF, cellU, nrF, h2, h4, h6, h8, h17, h22, h77, h84, h88, c28, c74, if_true, if_false, Bool.false_eq_true, ↓reduceIte]; rfl)
    have x94 : cf .f32 r87 = cellF (cf .f32 p_) (cf .f32 low) A_g.step n := by first | rfl | (simp only [cellI, cellF, cellU, nrF, h2, h4, h6, h8, h17, h22, h77, h84, h88, c28, c74, if_true, if_false, Bool.false_eq_true, ↓reduceIte]; done) | (simp only [cellI, cellF, cellU, nrF, h2, h4, h6, h8, h17, h22, h77, h84, h88, c28, c74, if_true, if_false, Bool.false_eq_true, ↓reduceIte]; rfl)
    exact ⟨r87, (by first | rfl | rw [x92, x93] | rw [x93, x92]), x94⟩
  have c74' := c74
  (try simp only [h2, h4, h6, h8, h17, h22] at c74)
  refine wp_skip (hK72 _ _ ?_)
  refine wp_seq_k fun K95 hK95 => ?_
  refine wp_region_lit ?_
  refine q_is rfl rfl (does_move (u := (Fl r21)) (ev rfl)) (by dsimp only [List.set]; try rfl) ?_
  refine seqd rfl rfl (does_widen Try.underlying22 Try.underlying37 (ev rfl)) ?_; rintro _ w99 ⟨r96, rfl, h97, E98⟩
  have X100 := Ext.gr X25 E98
  show wpList _ _ _ _ (fr [(Pt g_b g_o), (Fl p_), (Fl low), (Iv n), Ud, Ud, Ud, Ud, (Iv 0), (Iv 0), (Fl 0), (Fl r21), (Fl (FloatKind.f32.nearest (n - 1))), Ud, (Fl p_), (Fl low), (Fl r16), (Pt g_b g_o), (Pt g_b g_o), (Pt g_b (g_o + 3)), (Fl r7), (Fl r21), (Iv n), (Iv (n - 1)), (Fl (FloatKind.f32.nearest (n - 1))), (Fl r21), (Bo (fcmp .lss (ford .f32 (cf .f32 r21) (cf .f32 0)))), (Fl r21), (Fl (FloatKind.f32.nearest (n - 1))), (Bo (fcmp .gtr (ford .f32 (cf .f32 r21) (cf .f32 (FloatKind.f32.nearest (n - 1)))))), Ud, (Fl r21), (Fd r96), Ud, Ud, Ud, Ud, Ud, Ud, Ud, Ud, Ud, Ud, Ud, Ud, Ud, Ud, Ud, Ud]) _
  refine seqd rfl rfl (does_call (args := #[(Fd r96)]) cal45 (evs rfl) (c_math_Floor r96 _)) ?_; rintro _ w102 ⟨E101, ⟨r103, rfl, h104⟩⟩
  have X105 := Ext.gr X100 E101
  show wpList _ _ _ _ (fr [(Pt g_b g_o), (Fl p_), (Fl low), (Iv n), Ud, Ud, Ud, Ud, (Iv 0), (Iv 0), (Fl 0), (Fl r21), (Fl (FloatKind.f32.nearest (n - 1))), Ud, (Fl p_), (Fl low), (Fl r16), (Pt g_b g_o), (Pt g_b g_o), (Pt g_b (g_o + 3)), (Fl r7), (Fl r21), (Iv n), (Iv (n - 1)), (Fl (FloatKind.f32.nearest (n - 1))), (Fl r21), (Bo (fcmp .lss (ford .f32 (cf .f32 r21) (cf .f32 0)))), (Fl r21), (Fl (FloatKind.f32.nearest (n - 1))), (Bo (fcmp .gtr (ford .f32 (cf .f32 r21) (cf .f32 (FloatKind.f32.nearest (n - 1)))))), Ud, (Fl r21), (Fd r96), (Fd r103), Ud, Ud, Ud, Ud, Ud, Ud, Ud, Ud, Ud, Ud, Ud, Ud, Ud, Ud, Ud]) _
  refine q_is rfl rfl (does_conv_fi (p := r103) Try.underlying37 Try.underlying2 (ev rfl) (by first | assumption | (simp only [h2, h4, h6, h8, h17, h22, h97, h104]; first | assumption | exact (by have hz := hin; simp only [cellU, nrF, h2, h4, h6, h8, h17, h22, h97, h104, c28, c74, if_true, if_false, Bool.false_eq_true, ↓reduceIte] at hz; exact hz)))) (by dsimp only [List.set]; try rfl) ?_
  refine q_is rfl rfl (does_move (u := (Iv n)) (ev rfl)) (by dsimp only [List.set]; try rfl) ?_
  refine q_is rfl rfl (does_iarith (p := n) (q := 2) (r := n - 2) (ev rfl) (ev rfl) (.inr (.inl ⟨rfl, (in_i64 (by omega) (by omega)).symm⟩))) (by dsimp only [List.set]; try rfl) ?_
  refine q_is rfl rfl (does_min (p := intOf (cf .f64 r103)) (q := n - 2) Try.underlying2 (ev rfl) (ev rfl)) (by dsimp only [List.set]; try rfl) ?_
  refine q_is rfl rfl (does_max (p := (min (intOf (cf .f64 r103)) (n - 2))) (q := 0) Try.underlying2 (ev rfl) (ev rfl)) (by dsimp only [List.set]; try rfl) ?_
  refine q_is rfl rfl (does_assign (u := (Iv (max (min (intOf (cf .f64 r103)) (n - 2)) 0))) (ev rfl)) (by dsimp only [List.set]; try rfl) ?_
  refine wpList_nil (hK95 _ _ ?_)
  refine wp_seq_k fun K106 hK106 => ?_
  refine wp_region_lit ?_
  refine q_is rfl rfl (does_move (u := (Iv (max (min (intOf (cf .f64 r103)) (n - 2)) 0))) (ev rfl)) (by dsimp only [List.set]; try rfl) ?_
  refine q_is rfl rfl (does_move (u := (Iv (max (min (intOf (cf .f64 r103)) (n - 2)) 0))) (ev rfl)) (by dsimp only [List.set]; try rfl) ?_
  refine q_is rfl rfl (does_iarith (p := (max (min (intOf (cf .f64 r103)) (n - 2)) 0)) (q := 1) (r := (max (min (intOf (cf .f64 r103)) (n - 2)) 0) + 1) (ev rfl) (ev rfl) (.inl ⟨rfl, (in_i64 (by omega) (by omega)).symm⟩)) (by dsimp only [List.set]; try rfl) ?_
  refine q_is rfl rfl (does_move (u := (Iv n)) (ev rfl)) (by dsimp only [List.set]; try rfl) ?_
  refine q_is rfl rfl (does_iarith (p := n) (q := 1) (r := n - 1) (ev rfl) (ev rfl) (.inr (.inl ⟨rfl, (in_i64 (by omega) (by omega)).symm⟩))) (by dsimp only [List.set]; try rfl) ?_
  refine q_is rfl rfl (does_min (p := (max (min (intOf (cf .f64 r103)) (n - 2)) 0) + 1) (q := n - 1) Try.underlying2 (ev rfl) (ev rfl)) (by dsimp only [List.set]; try rfl) ?_
  refine q_is rfl rfl (does_move (u := (Fl r21)) (ev rfl)) (by dsimp only [List.set]; try rfl) ?_
  refine q_is rfl rfl (does_move (u := (Iv (max (min (intOf (cf .f64 r103)) (n - 2)) 0))) (ev rfl)) (by dsimp only [List.set]; try rfl) ?_
  refine q_is rfl rfl (does_conv_if (k := .f32) Try.underlying2 Try.underlying22 (ev rfl)) (by dsimp only [List.set]; try rfl) ?_
  refine seqd rfl rfl (does_float (.inr (.inl rfl)) (ev rfl) (ev rfl)) ?_; rintro _ w110 ⟨r107, rfl, h108, E109⟩
  have X111 := Ext.gr X105 E109
  show wpList _ _ _ _ (fr [(Pt g_b g_o), (Fl p_), (Fl low), (Iv n), Ud, Ud, Ud, Ud, (Iv 0), (Iv 0), (Fl 0), (Fl r21), (Fl (FloatKind.f32.nearest (n - 1))), (Iv (max (min (intOf (cf .f64 r103)) (n - 2)) 0)), (Fl p_), (Fl low), (Fl r16), (Pt g_b g_o), (Pt g_b g_o), (Pt g_b (g_o + 3)), (Fl r7), (Fl r21), (Iv n), (Iv (n - 1)), (Fl (FloatKind.f32.nearest (n - 1))), (Fl r21), (Bo (fcmp .lss (ford .f32 (cf .f32 r21) (cf .f32 0)))), (Fl r21), (Fl (FloatKind.f32.nearest (n - 1))), (Bo (fcmp .gtr (ford .f32 (cf .f32 r21) (cf .f32 (FloatKind.f32.nearest (n - 1)))))), Ud, (Fl r21), (Fd r96), (Fd r103), (Iv (intOf (cf .f64 r103))), (Iv n), (Iv (n - 2)), (Iv (min (intOf (cf .f64 r103)) (n - 2))), (Iv (max (min (intOf (cf .f64 r103)) (n - 2)) 0)), (Iv (max (min (intOf (cf .f64 r103)) (n - 2)) 0)), (Iv (max (min (intOf (cf .f64 r103)) (n - 2)) 0)), (Iv ((max (min (intOf (cf .f64 r103)) (n - 2)) 0) + 1)), (Iv n), (Iv (n - 1)), (Iv (min ((max (min (intOf (cf .f64 r103)) (n - 2)) 0) + 1) (n - 1))), (Fl r21), (Iv (max (min (intOf (cf .f64 r103)) (n - 2)) 0)), (Fl (FloatKind.f32.nearest (max (min (intOf (cf .f64 r103)) (n - 2)) 0))), (Fl r107)]) _
  refine q_is rfl rfl (does_assign (u := (Iv (max (min (intOf (cf .f64 r103)) (n - 2)) 0))) (ev rfl)) (by dsimp only [List.set]; try rfl) ?_
  refine q_is rfl rfl (does_assign (u := (Iv (min ((max (min (intOf (cf .f64 r103)) (n - 2)) 0) + 1) (n - 1)))) (ev rfl)) (by dsimp only [List.set]; try rfl) ?_
  refine q_is rfl rfl (does_assign (u := (Fl r107)) (ev rfl)) (by dsimp only [List.set]; try rfl) ?_
  refine wpList_nil (hK106 _ _ ?_)
  refine wp_ret ?_
  refine ret_val (v := (.tuple #[(Iv (max (min (intOf (cf .f64 r103)) (n - 2)) 0)), (Iv (min ((max (min (intOf (cf .f64 r103)) (n - 2)) 0) + 1) (n - 1))), (Fl r107)])) (res_TTT rfl (slot rfl) (slot rfl) (slot rfl)) X111 ?_
  try simp only [h2, h4, h6, h8, h17, h22, h97, h104, h108] at c28 c74
  have x112 : (cellI (cf .f32 p_) (cf .f32 low) A_g.step n : Int) = (max (min (intOf (cf .f64 r103)) (n - 2)) 0) := by first | rfl | (simp only [cellI, cellF, cellU, nrF, h2, h4, h6, h8, h17, h22, h97, h104, h108, c28, c74, if_true, if_false, Bool.false_eq_true, ↓reduceIte]; done) | (simp only [cellI, cellF, cellU, nrF, h2, h4, h6, h8, h17, h22, h97, h104, h108, c28, c74, if_true, if_false, Bool.false_eq_true, ↓reduceIte]; rfl)
  have x113 : (min (cellI (cf .f32 p_) (cf .f32 low) A_g.step n + 1) (n - 1) : Int) = (min ((max (min (intOf (cf .f64 r103)) (n - 2)) 0) + 1) (n - 1)) := by first | rfl | (simp only [cellI, cellF, cellU, nrF, h2, h4, h6, h8, h17, h22, h97, h104, h108, c28, c74, if_true, if_false, Bool.false_eq_true, ↓reduceIte]; done) | (simp only [cellI, cellF, cellU, nrF, h2, h4, h6, h8, h17, h22, h97, h104, h108, c28, c74, if_true, if_false, Bool.false_eq_true, ↓reduceIte]; rfl)
  have x114 : cf .f32 r107 = cellF (cf .f32 p_) (cf .f32 low) A_g.step n := by first | rfl | (simp only [cellI, cellF, cellU, nrF, h2, h4, h6, h8, h17, h22, h97, h104, h108, c28, c74, if_true, if_false, Bool.false_eq_true, ↓reduceIte]; done) | (simp only [cellI, cellF, cellU, nrF, h2, h4, h6, h8, h17, h22, h97, h104, h108, c28, c74, if_true, if_false, Bool.false_eq_true, ↓reduceIte]; rfl)
  exact ⟨r107, (by first | rfl | rw [x112, x113] | rw [x113, x112]), x114⟩

/- spec.l06Mix -/
theorem c_spec_l06Mix (a_ : Nat) (b_ : Nat) (f_ : Nat) (w : World) : Gives Try.prog 33 #[(Fl a_), (Fl b_), (Fl f_)] w (fun v w' => ∃ r_1 : Nat, v = (Fl r_1) ∧ cf .f32 r_1 = mixF (cf .f32 a_) (cf .f32 b_) (cf .f32 f_)) := by
  refine enter [(Fl a_), (Fl b_), (Fl f_), Ud, Ud, Ud, Ud, Ud, Ud, Ud, Ud, Ud, Ud, Ud] Try.func33 rfl Try.ntmps33 rfl ?_
  refine wp_seq_k fun K1 hK1 => ?_
  refine wp_region_lit ?_
  refine q_is (l' := [(Fl a_), (Fl b_), (Fl f_), Ud, Ud, Ud, (Fl 0), Ud, Ud, Ud, Ud, Ud, Ud, Ud]) rfl rfl (does_assign (u := (Fl 0)) (ev rfl)) rfl ?_
  refine wpList_nil (hK1 _ _ ?_)
  refine wp_seq_k fun K2 hK2 => ?_
  refine wp_region_lit ?_
  refine q_is (l' := [(Fl a_), (Fl b_), (Fl f_), Ud, Ud, Ud, (Fl 0), (Fl a_), Ud, Ud, Ud, Ud, Ud, Ud]) rfl rfl (does_move (u := (Fl a_)) (ev rfl)) rfl ?_
  refine q_is (l' := [(Fl a_), (Fl b_), (Fl f_), Ud, Ud, Ud, (Fl 0), (Fl a_), (Fl f_), Ud, Ud, Ud, Ud, Ud]) rfl rfl (does_move (u := (Fl f_)) (ev rfl)) rfl ?_
  refine q_is (l' := [(Fl a_), (Fl b_), (Fl f_), Ud, Ud, Ud, (Fl 0), (Fl a_), (Fl f_), (Fl b_), Ud, Ud, Ud, Ud]) rfl rfl (does_move (u := (Fl b_)) (ev rfl)) rfl ?_
  refine q_is (l' := [(Fl a_), (Fl b_), (Fl f_), Ud, Ud, Ud, (Fl 0), (Fl a_), (Fl f_), (Fl b_), (Fl a_), Ud, Ud, Ud]) rfl rfl (does_move (u := (Fl a_)) (ev rfl)) rfl ?_
  refine seqd rfl rfl (does_float (.inr (.inl rfl)) (ev rfl) (ev rfl)) ?_; rintro _ w6 ⟨r3, rfl, h4, E5⟩
  have X7 := Ext.gr (Ext.refl w) E5
  show wpList _ _ _ _ (fr [(Fl a_), (Fl b_), (Fl f_), Ud, Ud, Ud, (Fl 0), (Fl a_), (Fl f_), (Fl b_), (Fl a_), (Fl r3), Ud, Ud]) _
  refine seqd rfl rfl (does_float (.inr (.inr (.inl rfl))) (ev rfl) (ev rfl)) ?_; rintro _ w11 ⟨r8, rfl, h9, E10⟩
  have X12 := Ext.gr X7 E10
  show wpList _ _ _ _ (fr [(Fl a_), (Fl b_), (Fl f_), Ud, Ud, Ud, (Fl 0), (Fl a_), (Fl f_), (Fl b_), (Fl a_), (Fl r3), (Fl r8), Ud]) _
  refine seqd rfl rfl (does_float (.inl rfl) (ev rfl) (ev rfl)) ?_; rintro _ w16 ⟨r13, rfl, h14, E15⟩
  have X17 := Ext.gr X12 E15
  show wpList _ _ _ _ (fr [(Fl a_), (Fl b_), (Fl f_), Ud, Ud, Ud, (Fl 0), (Fl a_), (Fl f_), (Fl b_), (Fl a_), (Fl r3), (Fl r8), (Fl r13)]) _
  refine q_is (l' := [(Fl a_), (Fl b_), (Fl f_), Ud, Ud, Ud, (Fl r13), (Fl a_), (Fl f_), (Fl b_), (Fl a_), (Fl r3), (Fl r8), (Fl r13)]) rfl rfl (does_assign (u := (Fl r13)) (ev rfl)) rfl ?_
  refine wpList_nil (hK2 _ _ ?_)
  refine wp_ret ?_
  refine ret_val (v := (Fl r13)) (res_T rfl (slot rfl)) X17 ?_
  have x18 : cf .f32 r13 = mixF (cf .f32 a_) (cf .f32 b_) (cf .f32 f_) := by first | with_reducible rfl | (simp only [mixF, h4, h9, h14]; done) | (simp [mixF, h4, h9, h14]; done) | rfl
  exact ⟨r13, rfl, x18⟩

/- (*impl.Grid).between$1 -/
theorem c_impl_Grid_between_1 (a_ : Nat) (b_ : Nat) (f_ : Nat) (w : World) : Gives Try.prog 39 #[(Fl a_), (Fl b_), (Fl f_)] w (fun v w' => ∃ r_1 : Nat, v = (Fl r_1) ∧ cf .f32 r_1 = mixF (cf .f32 a_) (cf .f32 b_) (cf .f32 f_)) := by
  refine enter [(Fl a_), (Fl b_), (Fl f_), Ud, Ud, Ud, Ud, Ud, Ud, Ud, Ud, Ud, Ud, Ud] Try.func39 rfl Try.ntmps39 rfl ?_
  refine wp_seq_k fun K1 hK1 => ?_
  refine wp_region_lit ?_
  refine q_is (l' := [(Fl a_), (Fl b_), (Fl f_), Ud, Ud, Ud, (Fl 0), Ud, Ud, Ud, Ud, Ud, Ud, Ud]) rfl rfl (does_assign (u := (Fl 0)) (ev rfl)) rfl ?_
  refine wpList_nil (hK1 _ _ ?_)
  refine wp_seq_k fun K2 hK2 => ?_
  refine wp_region_lit ?_
  refine q_is (l' := [(Fl a_), (Fl b_), (Fl f_), Ud, Ud, Ud, (Fl 0), (Fl a_), Ud, Ud, Ud, Ud, Ud, Ud]) rfl rfl (does_move (u := (Fl a_)) (ev rfl)) rfl ?_
  refine q_is (l' := [(Fl a_), (Fl b_), (Fl f_), Ud, Ud, Ud, (Fl 0), (Fl a_), (Fl f_), Ud, Ud, Ud, Ud, Ud]) rfl rfl (does_move (u := (Fl f_)) (ev rfl)) rfl ?_
  refine q_is (l' := [(Fl a_), (Fl b_), (Fl f_), Ud, Ud, Ud, (Fl 0), (Fl a_), (Fl f_), (Fl b_), Ud, Ud, Ud, Ud]) rfl rfl (does_move (u := (Fl b_)) (ev rfl)) rfl ?_
  refine q_is (l' := [(Fl a_), (Fl b_), (Fl f_), Ud, Ud, Ud, (Fl 0), (Fl a_), (Fl f_), (Fl b_), (Fl a_), Ud, Ud, Ud]) rfl rfl (does_move (u := (Fl a_)) (ev rfl)) rfl ?_
  refine seqd rfl rfl (does_float (.inr (.inl rfl)) (ev rfl) (ev rfl)) ?_; rintro _ w6 ⟨r3, rfl, h4, E5⟩
  have X7 := Ext.gr (Ext.refl w) E5
  show wpList _ _ _ _ (fr [(Fl a_), (Fl b_), (Fl f_), Ud, Ud, Ud, (Fl 0), (Fl a_), (Fl f_), (Fl b_), (Fl a_), (Fl r3), Ud, Ud]) _
  refine seqd rfl rfl (does_float (.inr (.inr (.inl rfl))) (ev rfl) (ev rfl)) ?_; rintro _ w11 ⟨r8, rfl, h9, E10⟩
  have X12 := Ext.gr X7 E10
  show wpList _ _ _ _ (fr [(Fl a_), (Fl b_), (Fl f_), Ud, Ud, Ud, (Fl 0), (Fl a_), (Fl f_), (Fl b_), (Fl a_), (Fl r3), (Fl r8), Ud]) _
  refine seqd rfl rfl (does_float (.inl rfl) (ev rfl) (ev rfl)) ?_; rintro _ w16 ⟨r13, rfl, h14, E15⟩
  have X17 := Ext.gr X12 E15
  show wpList _ _ _ _ (fr [(Fl a_), (Fl b_), (Fl f_), Ud, Ud, Ud, (Fl 0), (Fl a_), (Fl f_), (Fl b_), (Fl a_), (Fl r3), (Fl r8), (Fl r13)]) _
  refine q_is (l' := [(Fl a_), (Fl b_), (Fl f_), Ud, Ud, Ud, (Fl r13), (Fl a_), (Fl f_), (Fl b_), (Fl a_), (Fl r3), (Fl r8), (Fl r13)]) rfl rfl (does_assign (u := (Fl r13)) (ev rfl)) rfl ?_
  refine wpList_nil (hK2 _ _ ?_)
  refine wp_ret ?_
  refine ret_val (v := (Fl r13)) (res_T rfl (slot rfl)) X17 ?_
  have x18 : cf .f32 r13 = mixF (cf .f32 a_) (cf .f32 b_) (cf .f32 f_) := by first | with_reducible rfl | (simp only [mixF, h4, h9, h14]; done) | (simp [mixF, h4, h9, h14]; done) | rfl
  exact ⟨r13, rfl, x18⟩

end Go.Proofs.Ytlpgjgombdcheaa
