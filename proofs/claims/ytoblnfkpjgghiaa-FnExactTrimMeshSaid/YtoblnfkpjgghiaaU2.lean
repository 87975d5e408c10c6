/- contracts of functions, each walked once -/
import Derived.Test.YtoblnfkpjgghiaaU
namespace Go.Proofs.Ytoblnfkpjgghiaa
open Go Go.RowKit
set_option maxRecDepth 100000
set_option maxHeartbeats 3200000
set_option linter.unusedVariables false
set_option linter.unusedSimpArgs false

/- impl.isTriangle$1 -/
theorem c_impl_isTriangle_1 (x_ : Int) (pn_b : Nat) (pn_o : Nat) (n_ : Int) (w : World) (hc_pn : Cells w pn_b pn_o [(Iv n_)]) : Gives Try.prog 56 #[(Iv x_), (Pt pn_b pn_o)] w (fun v w' => v = (Bo (!inI x_ 0 (IntKind.i64.wrap (n_ - 1))))) := by
  refine enter [(Iv x_), (Pt pn_b pn_o), Ud, Ud, Ud, Ud, Ud, Ud, Ud] Try.func56 rfl Try.ntmps56 rfl ?_
  refine wp_seq_k fun K1 hK1 => ?_
  refine wp_region_lit ?_
  refine q_is (l' := [(Iv x_), (Pt pn_b pn_o), Ud, (Bo false), Ud, Ud, Ud, Ud, Ud]) rfl rfl (does_assign (u := (Bo false)) (ev rfl)) rfl ?_
  refine wpList_nil (hK1 _ _ ?_)
  refine wp_seq_k fun K2 hK2 => ?_
  refine wp_region_lit ?_
  refine q_is (l' := [(Iv x_), (Pt pn_b pn_o), Ud, (Bo false), (Iv x_), Ud, Ud, Ud, Ud]) rfl rfl (does_move (u := (Iv x_)) (ev rfl)) rfl ?_
  refine q_is (l' := [(Iv x_), (Pt pn_b pn_o), Ud, (Bo false), (Iv x_), (Iv n_), Ud, Ud, Ud]) rfl rfl (does_load (u := (Iv n_)) (ev rfl) Try.isAgg3 (Cells.at hc_pn 0 rfl)) rfl ?_
  refine q_is (l' := [(Iv x_), (Pt pn_b pn_o), Ud, (Bo false), (Iv x_), (Iv n_), (Iv (IntKind.i64.wrap (n_ - 1))), Ud, Ud]) rfl rfl (does_iarith (p := n_) (q := 1) (r := IntKind.i64.wrap (n_ - 1)) (ev rfl) (ev rfl) (.inr (.inl ⟨rfl, rfl⟩))) rfl ?_
  refine seqd rfl rfl (does_call (args := #[(Iv x_), (Iv 0), (Iv (IntKind.i64.wrap (n_ - 1)))]) cal57 (evs rfl) (c_impl_in x_ 0 (IntKind.i64.wrap (n_ - 1)) _)) ?_; rintro _ w4 ⟨E3, rfl⟩
  have X5 := Ext.gr (Ext.refl w) E3
  show wpList _ _ _ _ (fr [(Iv x_), (Pt pn_b pn_o), Ud, (Bo false), (Iv x_), (Iv n_), (Iv (IntKind.i64.wrap (n_ - 1))), (Bo (inI x_ 0 (IntKind.i64.wrap (n_ - 1)))), Ud]) _
  refine q_is (l' := [(Iv x_), (Pt pn_b pn_o), Ud, (Bo false), (Iv x_), (Iv n_), (Iv (IntKind.i64.wrap (n_ - 1))), (Bo (inI x_ 0 (IntKind.i64.wrap (n_ - 1)))), (Bo (!(inI x_ 0 (IntKind.i64.wrap (n_ - 1)))))]) rfl rfl (does_not (ev rfl)) rfl ?_
  refine q_is (l' := [(Iv x_), (Pt pn_b pn_o), Ud, (Bo (!(inI x_ 0 (IntKind.i64.wrap (n_ - 1))))), (Iv x_), (Iv n_), (Iv (IntKind.i64.wrap (n_ - 1))), (Bo (inI x_ 0 (IntKind.i64.wrap (n_ - 1)))), (Bo (!(inI x_ 0 (IntKind.i64.wrap (n_ - 1)))))]) rfl rfl (does_assign (u := (Bo (!(inI x_ 0 (IntKind.i64.wrap (n_ - 1)))))) (ev rfl)) rfl ?_
  refine wpList_nil (hK2 _ _ ?_)
  refine wp_ret ?_
  refine ret_val (v := (Bo (!(inI x_ 0 (IntKind.i64.wrap (n_ - 1)))))) (res_T rfl (slot rfl)) X5 ?_
  have x6 : (!inI x_ 0 (IntKind.i64.wrap (n_ - 1))) = (!(inI x_ 0 (IntKind.i64.wrap (n_ - 1)))) := by first | with_reducible rfl | (simp only []; done) | (simp []; done) | rfl
  exact (by first | with_reducible rfl | rw [x6] | rfl)

/- impl.isTriangle -/
theorem c_impl_isTriangle (t_ : Value) (L_t_ : List Int) (n_ : Int) (w : World) (hv_t_ : Sl RI 1 w t_ L_t_) : Gives Try.prog 48 #[t_, (Iv n_)] w (fun v w' => v = (Bo (triOk n_ L_t_))) := by
  have hlen_t_ := Sl.len hv_t_; obtain ⟨p_t_, q_t_, rfl⟩ := Sl.shape hv_t_
  refine enter [(.slice p_t_ L_t_.length q_t_), (Iv n_), Ud, Ud, Ud, Ud, Ud, Ud, Ud, Ud, Ud, Ud, Ud, Ud, Ud, Ud, Ud, Ud, Ud, Ud, Ud, Ud, Ud, Ud, Ud, Ud, Ud, Ud, Ud, Ud, Ud, Ud, Ud, Ud, Ud, Ud, Ud, Ud, Ud] Try.func48 rfl Try.ntmps48 rfl ?_
  refine wp_seq_k fun K1 hK1 => ?_
  refine wp_region_lit ?_
  refine seqd rfl rfl (does_box (u := (Iv n_)) (ev rfl)) ?_; rintro _ w6 ⟨b2, rfl, hb3, hB4, E5⟩
  have g7 : w.heap.size ≤ b2 := Nat.le_trans (Below.size (Ext.refl w)) hb3
  change Blk _ _ [(Iv n_)] at hB4
  have X8 := Ext.gr (Ext.refl w) E5
  show wpList _ _ _ _ (fr [_, _, _, _, _, _, _, _, _, _, _, _, _, _, _, _, _, _, _, _, _, _, _, _, _, _, _, _, _, _, _, _, _, _, _, _, _, _, _]) _
  refine q_is rfl rfl (does_assign (u := (Bo false)) (ev rfl)) (by dsimp only [List.set]; try rfl) ?_
  refine wpList_nil (hK1 _ _ ?_)
  refine wp_seq_k fun K9 hK9 => ?_
  refine wp_seq_k fun K10 hK10 => ?_
  obtain ⟨β1, hβ1⟩ : ∃ b : Bool, b = (icmp .neq (L_t_.length : Int) 3) := ⟨_, rfl⟩
  obtain ⟨el1, hel1⟩ := exists_el (0 : Int) L_t_ 0
  obtain ⟨el2, hel2⟩ := exists_el (0 : Int) L_t_ 1
  obtain ⟨β2, hβ2⟩ : ∃ b : Bool, b = (β1 || (icmp .eql el1 el2)) := ⟨_, rfl⟩
  obtain ⟨el3, hel3⟩ := exists_el (0 : Int) L_t_ 2
  obtain ⟨β3, hβ3⟩ : ∃ b : Bool, b = (β2 || (icmp .eql el2 el3)) := ⟨_, rfl⟩
  obtain ⟨β4, hβ4⟩ : ∃ b : Bool, b = (β3 || (icmp .eql el3 el1)) := ⟨_, rfl⟩
  refine region_draw (
    [Fact.pure [] (fun v => v = (.slice p_t_ L_t_.length q_t_)),
    Fact.pure [5] (fun v => v = (Iv (L_t_.length : Int))),
    Fact.pure [6] (fun v => v = (Bo β1)),
    Fact.pure [7] (fun v => v = (Bo β1)),
    Fact.pure [8] (fun v => β1 = false → v = (.slice p_t_ L_t_.length q_t_)),
    Fact.mem [9, 8] (fun v w' => β1 = false → PtrR RI w' v el1) (by intro v w1 w2 hx h; exact fun hg1 => (h hg1).ext RI.mono hx),
    Fact.pure [10, 8] (fun v => β1 = false → v = (Iv el1)),
    Fact.pure [8] (fun v => β1 = false → v = (.slice p_t_ L_t_.length q_t_)),
    Fact.mem [12, 8] (fun v w' => β1 = false → PtrR RI w' v el2) (by intro v w1 w2 hx h; exact fun hg1 => (h hg1).ext RI.mono hx),
    Fact.pure [13, 8] (fun v => β1 = false → v = (Iv el2)),
    Fact.pure [11, 14, 8] (fun v => β1 = false → v = (Bo (icmp .eql el1 el2))),
    Fact.pure [8, 15] (fun v => v = (Bo β2)),
    Fact.pure [16] (fun v => v = (Bo β2)),
    Fact.pure [17] (fun v => β2 = false → v = (.slice p_t_ L_t_.length q_t_)),
    Fact.mem [18, 17] (fun v w' => β2 = false → PtrR RI w' v el2) (by intro v w1 w2 hx h; exact fun hg1 => (h hg1).ext RI.mono hx),
    Fact.pure [19, 17] (fun v => β2 = false → v = (Iv el2)),
    Fact.pure [17] (fun v => β2 = false → v = (.slice p_t_ L_t_.length q_t_)),
    Fact.mem [21, 17] (fun v w' => β2 = false → PtrR RI w' v el3) (by intro v w1 w2 hx h; exact fun hg1 => (h hg1).ext RI.mono hx),
    Fact.pure [22, 17] (fun v => β2 = false → v = (Iv el3)),
    Fact.pure [20, 23, 17] (fun v => β2 = false → v = (Bo (icmp .eql el2 el3))),
    Fact.pure [17, 24] (fun v => v = (Bo β3)),
    Fact.pure [25] (fun v => v = (Bo β3)),
    Fact.pure [26] (fun v => β3 = false → v = (.slice p_t_ L_t_.length q_t_)),
    Fact.mem [27, 26] (fun v w' => β3 = false → PtrR RI w' v el3) (by intro v w1 w2 hx h; exact fun hg1 => (h hg1).ext RI.mono hx),
    Fact.pure [28, 26] (fun v => β3 = false → v = (Iv el3)),
    Fact.pure [26] (fun v => β3 = false → v = (.slice p_t_ L_t_.length q_t_)),
    Fact.mem [30, 26] (fun v w' => β3 = false → PtrR RI w' v el1) (by intro v w1 w2 hx h; exact fun hg1 => (h hg1).ext RI.mono hx),
    Fact.pure [31, 26] (fun v => β3 = false → v = (Iv el1)),
    Fact.pure [29, 32, 26] (fun v => β3 = false → v = (Bo (icmp .eql el3 el1))),
    Fact.pure [26, 33] (fun v => v = (Bo β4))]) mixed (by kernel_rfl) (by intro _ _ d _ _ h; cases d <;> exact h) ?_
  obtain ⟨w11, hw13⟩ : ∃ w', w' = World.drew w6 := ⟨_, rfl⟩; rw [← hw13]; have E12 : Ext w6 w11 := by rw [hw13]; exact Ext.draw _
  clear hw13
  have X14 := Ext.gr X8 E12
  refine RW_d _ rfl (fun v => by dsimp only [List.set]; try rfl) (fun u hu hF => ?_) (fun v15 => ?_)
  · clear hF
    refine doesG_un rfl ?_
    refine (does_move (u := (.slice p_t_ L_t_.length q_t_)) (ev rfl)).mono ?_; rintro _ _ ⟨rfl, rfl⟩
    exact ⟨rfl, Ext.refl _⟩
  refine RW_d _ rfl (fun v => by dsimp only [List.set]; try rfl) (fun u hu hF => ?_) (fun v16 => ?_)
  · have h5_ : v15 = (.slice p_t_ L_t_.length q_t_) := hF.1
    clear hF
    refine doesG_un rfl ?_
    obtain rfl := h5_
    refine (does_len_slice Try.underlying27 (ev rfl)).mono ?_; rintro _ _ ⟨rfl, rfl⟩
    exact ⟨rfl, Ext.refl _⟩
  refine RW_d _ rfl (fun v => by dsimp only [List.set]; try rfl) (fun u hu hF => ?_) (fun v17 => ?_)
  · have h6_ : v16 = (Iv (L_t_.length : Int)) := hF.1
    clear hF
    refine doesG_un rfl ?_
    obtain rfl := h6_
    refine (does_icmp (p := (L_t_.length : Int)) (q := 3) (.inr (.inl rfl)) (ev rfl) (ev rfl)).mono ?_; rintro _ _ ⟨rfl, rfl⟩
    exact ⟨(by first | rfl | (show _ = _; simp only [hβ1]; done) | (show _ = _; simp only [hβ1]; rfl)), Ext.refl _⟩
  refine RW_d _ rfl (fun v => by dsimp only [List.set]; try rfl) (fun u hu hF => ?_) (fun v18 => ?_)
  · have h7_ : v17 = (Bo β1) := hF.1
    clear hF
    refine doesG_un rfl ?_
    obtain rfl := h7_
    refine (does_move (u := (Bo β1)) (ev rfl)).mono ?_; rintro _ _ ⟨rfl, rfl⟩
    exact ⟨rfl, Ext.refl _⟩
  refine RW_d _ rfl (fun v => by dsimp only [List.set]; try rfl) (fun u hu hF => ?_) (fun v19 => ?_)
  · have h8_ : v18 = (Bo β1) := hF.1
    clear hF
    obtain rfl := h8_
    refine doesG_g (b := β1) rfl (yld rfl rfl) (fun hg1 => ?_) (fun hc => ⟨fun hg1 => absurd hg1 hc, Ext.refl _⟩)
    refine (does_move (u := (.slice p_t_ L_t_.length q_t_)) (ev rfl)).mono ?_; rintro _ _ ⟨rfl, rfl⟩
    exact ⟨fun _ => rfl, Ext.refl _⟩
  refine RW_d _ rfl (fun v => by dsimp only [List.set]; try rfl) (fun u hu hF => ?_) (fun v20 => ?_)
  · have h9_ : β1 = false → v19 = (.slice p_t_ L_t_.length q_t_) := hF.1
    have h8_ : v18 = (Bo β1) := hF.2.1
    clear hF
    obtain rfl := h8_
    refine doesG_g (b := β1) rfl (yld rfl rfl) (fun hg1 => ?_) (fun hc => ⟨fun hg1 => absurd hg1 hc, Ext.refl _⟩)
    obtain rfl := h9_ hg1
    refine (does_indexSl (R := RI) (i := 0) (xs := L_t_) (e := el1) Try.underlying27 Try.sizeOf2 (ev rfl) (ev rfl) (Sl.ext (Sl.ext hv_t_ RI.mono (Ext.gr X8 E12)) RI.mono hu) (by first | omega | (simp only [hβ1, icmp, Bool.or_eq_false_iff, Bool.not_eq_false', Bool.not_eq_true', decide_eq_true_eq, decide_eq_false_iff_not, bne_eq_false_iff_eq] at hg1; omega) | (simp only [hβ1, icmp, Bool.or_eq_false_iff, Bool.not_eq_false', Bool.not_eq_true', decide_eq_true_eq, decide_eq_false_iff_not, bne_eq_false_iff_eq] at hg1 hg2; omega)) (hel1 (by first | omega | (simp only [hβ1, icmp, Bool.or_eq_false_iff, Bool.not_eq_false', Bool.not_eq_true', bne_eq_false_iff_eq] at hg1; omega)))).mono ?_; rintro v u' ⟨b, of, cs, hv, hc, hR, hu'⟩; subst hu'
    exact ⟨fun _ => ⟨b, of, cs, hv, hc, hR⟩, Ext.refl _⟩
  refine RW_d _ rfl (fun v => by dsimp only [List.set]; try rfl) (fun u hu hF => ?_) (fun v21 => ?_)
  · have h10_ : β1 = false → PtrR RI u v20 el1 := hF.1
    have h8_ : v18 = (Bo β1) := hF.2.1
    clear hF
    obtain rfl := h8_
    refine doesG_g (b := β1) rfl (yld rfl rfl) (fun hg1 => ?_) (fun hc => ⟨fun hg1 => absurd hg1 hc, Ext.refl _⟩)
    obtain ⟨b10_, o10_, _, rfl, hc10_, rfl⟩ := h10_ hg1
    refine (does_load (u := (Iv el1)) (ev rfl) Try.isAgg2 (Cells.at hc10_ 0 rfl)).mono ?_; rintro _ _ ⟨rfl, rfl⟩
    exact ⟨fun _ => rfl, Ext.refl _⟩
  refine RW_d _ rfl (fun v => by dsimp only [List.set]; try rfl) (fun u hu hF => ?_) (fun v22 => ?_)
  · have h8_ : v18 = (Bo β1) := hF.1
    clear hF
    obtain rfl := h8_
    refine doesG_g (b := β1) rfl (yld rfl rfl) (fun hg1 => ?_) (fun hc => ⟨fun hg1 => absurd hg1 hc, Ext.refl _⟩)
    refine (does_move (u := (.slice p_t_ L_t_.length q_t_)) (ev rfl)).mono ?_; rintro _ _ ⟨rfl, rfl⟩
    exact ⟨fun _ => rfl, Ext.refl _⟩
  refine RW_d _ rfl (fun v => by dsimp only [List.set]; try rfl) (fun u hu hF => ?_) (fun v23 => ?_)
  · have h12_ : β1 = false → v22 = (.slice p_t_ L_t_.length q_t_) := hF.1
    have h8_ : v18 = (Bo β1) := hF.2.1
    clear hF
    obtain rfl := h8_
    refine doesG_g (b := β1) rfl (yld rfl rfl) (fun hg1 => ?_) (fun hc => ⟨fun hg1 => absurd hg1 hc, Ext.refl _⟩)
    obtain rfl := h12_ hg1
    refine (does_indexSl (R := RI) (i := 1) (xs := L_t_) (e := el2) Try.underlying27 Try.sizeOf2 (ev rfl) (ev rfl) (Sl.ext (Sl.ext hv_t_ RI.mono (Ext.gr X8 E12)) RI.mono hu) (by first | omega | (simp only [hβ1, icmp, Bool.or_eq_false_iff, Bool.not_eq_false', Bool.not_eq_true', decide_eq_true_eq, decide_eq_false_iff_not, bne_eq_false_iff_eq] at hg1; omega) | (simp only [hβ1, icmp, Bool.or_eq_false_iff, Bool.not_eq_false', Bool.not_eq_true', decide_eq_true_eq, decide_eq_false_iff_not, bne_eq_false_iff_eq] at hg1 hg2; omega)) (hel2 (by first | omega | (simp only [hβ1, icmp, Bool.or_eq_false_iff, Bool.not_eq_false', Bool.not_eq_true', bne_eq_false_iff_eq] at hg1; omega)))).mono ?_; rintro v u' ⟨b, of, cs, hv, hc, hR, hu'⟩; subst hu'
    exact ⟨fun _ => ⟨b, of, cs, hv, hc, hR⟩, Ext.refl _⟩
  refine RW_d _ rfl (fun v => by dsimp only [List.set]; try rfl) (fun u hu hF => ?_) (fun v24 => ?_)
  · have h13_ : β1 = false → PtrR RI u v23 el2 := hF.1
    have h8_ : v18 = (Bo β1) := hF.2.1
    clear hF
    obtain rfl := h8_
    refine doesG_g (b := β1) rfl (yld rfl rfl) (fun hg1 => ?_) (fun hc => ⟨fun hg1 => absurd hg1 hc, Ext.refl _⟩)
    obtain ⟨b13_, o13_, _, rfl, hc13_, rfl⟩ := h13_ hg1
    refine (does_load (u := (Iv el2)) (ev rfl) Try.isAgg2 (Cells.at hc13_ 0 rfl)).mono ?_; rintro _ _ ⟨rfl, rfl⟩
    exact ⟨fun _ => rfl, Ext.refl _⟩
  refine RW_d _ rfl (fun v => by dsimp only [List.set]; try rfl) (fun u hu hF => ?_) (fun v25 => ?_)
  · have h11_ : β1 = false → v21 = (Iv el1) := hF.1
    have h14_ : β1 = false → v24 = (Iv el2) := hF.2.1
    have h8_ : v18 = (Bo β1) := hF.2.2.1
    clear hF
    obtain rfl := h8_
    refine doesG_g (b := β1) rfl (yld rfl rfl) (fun hg1 => ?_) (fun hc => ⟨fun hg1 => absurd hg1 hc, Ext.refl _⟩)
    obtain rfl := h11_ hg1
    obtain rfl := h14_ hg1
    refine (does_icmp (p := el1) (q := el2) (.inl rfl) (ev rfl) (ev rfl)).mono ?_; rintro _ _ ⟨rfl, rfl⟩
    exact ⟨fun _ => rfl, Ext.refl _⟩
  refine RW_d _ rfl (fun v => by dsimp only [List.set]; try rfl) (fun u hu hF => ?_) (fun v26 => ?_)
  · have h8_ : v18 = (Bo β1) := hF.1
    have h15_ : β1 = false → v25 = (Bo (icmp .eql el1 el2)) := hF.2.1
    clear hF
    refine doesG_un rfl ?_
    skip
    obtain rfl := h8_
    refine (does_pick (b := β1) (u := (Bo true)) (v := v25) (ev rfl) (ev rfl) (ev rfl)).mono ?_; rintro _ _ ⟨rfl, rfl⟩; refine ⟨?_, Ext.refl _⟩; rw [hβ2]; skip
    cases hbb : β1
    all_goals first | (show _ = _; simp only [↓reduceIte, Bool.true_and, Bool.false_and, Bool.true_or, Bool.false_or, Bool.false_eq_true]; done) | (have e_ := h15_ hbb; subst e_; show _ = _; simp only [↓reduceIte, Bool.true_and, Bool.false_and, Bool.true_or, Bool.false_or, Bool.false_eq_true]; done) | rfl | (have e_ := h15_ hbb; subst e_; rfl) | (simp [hbb] at h15_ ⊢; first | done | rfl | (subst h15_; rfl) | simp_all) | (simp [hbb] at h15_ ⊢; done)
  refine RW_d _ rfl (fun v => by dsimp only [List.set]; try rfl) (fun u hu hF => ?_) (fun v27 => ?_)
  · have h16_ : v26 = (Bo β2) := hF.1
    clear hF
    refine doesG_un rfl ?_
    obtain rfl := h16_
    refine (does_move (u := (Bo β2)) (ev rfl)).mono ?_; rintro _ _ ⟨rfl, rfl⟩
    exact ⟨rfl, Ext.refl _⟩
  refine RW_d _ rfl (fun v => by dsimp only [List.set]; try rfl) (fun u hu hF => ?_) (fun v28 => ?_)
  · have h17_ : v27 = (Bo β2) := hF.1
    clear hF
    obtain rfl := h17_
    refine doesG_g (b := β2) rfl (yld rfl rfl) (fun hg1 => ?_) (fun hc => ⟨fun hg1 => absurd hg1 hc, Ext.refl _⟩)
    refine (does_move (u := (.slice p_t_ L_t_.length q_t_)) (ev rfl)).mono ?_; rintro _ _ ⟨rfl, rfl⟩
    exact ⟨fun _ => rfl, Ext.refl _⟩
  refine RW_d _ rfl (fun v => by dsimp only [List.set]; try rfl) (fun u hu hF => ?_) (fun v29 => ?_)
  · have h18_ : β2 = false → v28 = (.slice p_t_ L_t_.length q_t_) := hF.1
    have h17_ : v27 = (Bo β2) := hF.2.1
    clear hF
    obtain rfl := h17_
    refine doesG_g (b := β2) rfl (yld rfl rfl) (fun hg1 => ?_) (fun hc => ⟨fun hg1 => absurd hg1 hc, Ext.refl _⟩)
    obtain rfl := h18_ hg1
    refine (does_indexSl (R := RI) (i := 1) (xs := L_t_) (e := el2) Try.underlying27 Try.sizeOf2 (ev rfl) (ev rfl) (Sl.ext (Sl.ext hv_t_ RI.mono (Ext.gr X8 E12)) RI.mono hu) (by first | omega | (simp only [hβ1, hβ2, icmp, Bool.or_eq_false_iff, Bool.not_eq_false', Bool.not_eq_true', decide_eq_true_eq, decide_eq_false_iff_not, bne_eq_false_iff_eq] at hg1; omega) | (simp only [hβ1, hβ2, icmp, Bool.or_eq_false_iff, Bool.not_eq_false', Bool.not_eq_true', decide_eq_true_eq, decide_eq_false_iff_not, bne_eq_false_iff_eq] at hg1 hg2; omega)) (hel2 (by first | omega | (simp only [hβ1, hβ2, icmp, Bool.or_eq_false_iff, Bool.not_eq_false', Bool.not_eq_true', bne_eq_false_iff_eq] at hg1; omega)))).mono ?_; rintro v u' ⟨b, of, cs, hv, hc, hR, hu'⟩; subst hu'
    exact ⟨fun _ => ⟨b, of, cs, hv, hc, hR⟩, Ext.refl _⟩
  refine RW_d _ rfl (fun v => by dsimp only [List.set]; try rfl) (fun u hu hF => ?_) (fun v30 => ?_)
  · have h19_ : β2 = false → PtrR RI u v29 el2 := hF.1
    have h17_ : v27 = (Bo β2) := hF.2.1
    clear hF
    obtain rfl := h17_
    refine doesG_g (b := β2) rfl (yld rfl rfl) (fun hg1 => ?_) (fun hc => ⟨fun hg1 => absurd hg1 hc, Ext.refl _⟩)
    obtain ⟨b19_, o19_, _, rfl, hc19_, rfl⟩ := h19_ hg1
    refine (does_load (u := (Iv el2)) (ev rfl) Try.isAgg2 (Cells.at hc19_ 0 rfl)).mono ?_; rintro _ _ ⟨rfl, rfl⟩
    exact ⟨fun _ => rfl, Ext.refl _⟩
  refine RW_d _ rfl (fun v => by dsimp only [List.set]; try rfl) (fun u hu hF => ?_) (fun v31 => ?_)
  · have h17_ : v27 = (Bo β2) := hF.1
    clear hF
    obtain rfl := h17_
    refine doesG_g (b := β2) rfl (yld rfl rfl) (fun hg1 => ?_) (fun hc => ⟨fun hg1 => absurd hg1 hc, Ext.refl _⟩)
    refine (does_move (u := (.slice p_t_ L_t_.length q_t_)) (ev rfl)).mono ?_; rintro _ _ ⟨rfl, rfl⟩
    exact ⟨fun _ => rfl, Ext.refl _⟩
  refine RW_d _ rfl (fun v => by dsimp only [List.set]; try rfl) (fun u hu hF => ?_) (fun v32 => ?_)
  · have h21_ : β2 = false → v31 = (.slice p_t_ L_t_.length q_t_) := hF.1
    have h17_ : v27 = (Bo β2) := hF.2.1
    clear hF
    obtain rfl := h17_
    refine doesG_g (b := β2) rfl (yld rfl rfl) (fun hg1 => ?_) (fun hc => ⟨fun hg1 => absurd hg1 hc, Ext.refl _⟩)
    obtain rfl := h21_ hg1
    refine (does_indexSl (R := RI) (i := 2) (xs := L_t_) (e := el3) Try.underlying27 Try.sizeOf2 (ev rfl) (ev rfl) (Sl.ext (Sl.ext hv_t_ RI.mono (Ext.gr X8 E12)) RI.mono hu) (by first | omega | (simp only [hβ1, hβ2, icmp, Bool.or_eq_false_iff, Bool.not_eq_false', Bool.not_eq_true', decide_eq_true_eq, decide_eq_false_iff_not, bne_eq_false_iff_eq] at hg1; omega) | (simp only [hβ1, hβ2, icmp, Bool.or_eq_false_iff, Bool.not_eq_false', Bool.not_eq_true', decide_eq_true_eq, decide_eq_false_iff_not, bne_eq_false_iff_eq] at hg1 hg2; omega)) (hel3 (by first | omega | (simp only [hβ1, hβ2, icmp, Bool.or_eq_false_iff, Bool.not_eq_false', Bool.not_eq_true', bne_eq_false_iff_eq] at hg1; omega)))).mono ?_; rintro v u' ⟨b, of, cs, hv, hc, hR, hu'⟩; subst hu'
    exact ⟨fun _ => ⟨b, of, cs, hv, hc, hR⟩, Ext.refl _⟩
  refine RW_d _ rfl (fun v => by dsimp only [List.set]; try rfl) (fun u hu hF => ?_) (fun v33 => ?_)
  · have h22_ : β2 = false → PtrR RI u v32 el3 := hF.1
    have h17_ : v27 = (Bo β2) := hF.2.1
    clear hF
    obtain rfl := h17_
    refine doesG_g (b := β2) rfl (yld rfl rfl) (fun hg1 => ?_) (fun hc => ⟨fun hg1 => absurd hg1 hc, Ext.refl _⟩)
    obtain ⟨b22_, o22_, _, rfl, hc22_, rfl⟩ := h22_ hg1
    refine (does_load (u := (Iv el3)) (ev rfl) Try.isAgg2 (Cells.at hc22_ 0 rfl)).mono ?_; rintro _ _ ⟨rfl, rfl⟩
    exact ⟨fun _ => rfl, Ext.refl _⟩
  refine RW_d _ rfl (fun v => by dsimp only [List.set]; try rfl) (fun u hu hF => ?_) (fun v34 => ?_)
  · have h20_ : β2 = false → v30 = (Iv el2) := hF.1
    have h23_ : β2 = false → v33 = (Iv el3) := hF.2.1
    have h17_ : v27 = (Bo β2) := hF.2.2.1
    clear hF
    obtain rfl := h17_
    refine doesG_g (b := β2) rfl (yld rfl rfl) (fun hg1 => ?_) (fun hc => ⟨fun hg1 => absurd hg1 hc, Ext.refl _⟩)
    obtain rfl := h20_ hg1
    obtain rfl := h23_ hg1
    refine (does_icmp (p := el2) (q := el3) (.inl rfl) (ev rfl) (ev rfl)).mono ?_; rintro _ _ ⟨rfl, rfl⟩
    exact ⟨fun _ => rfl, Ext.refl _⟩
  refine RW_d _ rfl (fun v => by dsimp only [List.set]; try rfl) (fun u hu hF => ?_) (fun v35 => ?_)
  · have h17_ : v27 = (Bo β2) := hF.1
    have h24_ : β2 = false → v34 = (Bo (icmp .eql el2 el3)) := hF.2.1
    clear hF
    refine doesG_un rfl ?_
    skip
    obtain rfl := h17_
    refine (does_pick (b := β2) (u := (Bo true)) (v := v34) (ev rfl) (ev rfl) (ev rfl)).mono ?_; rintro _ _ ⟨rfl, rfl⟩; refine ⟨?_, Ext.refl _⟩; rw [hβ3]; skip
    cases hbb : β2
    all_goals first | (show _ = _; simp only [↓reduceIte, Bool.true_and, Bool.false_and, Bool.true_or, Bool.false_or, Bool.false_eq_true]; done) | (have e_ := h24_ hbb; subst e_; show _ = _; simp only [↓reduceIte, Bool.true_and, Bool.false_and, Bool.true_or, Bool.false_or, Bool.false_eq_true]; done) | rfl | (have e_ := h24_ hbb; subst e_; rfl) | (simp [hbb] at h24_ ⊢; first | done | rfl | (subst h24_; rfl) | simp_all) | (simp [hbb] at h24_ ⊢; done)
  refine RW_d _ rfl (fun v => by dsimp only [List.set]; try rfl) (fun u hu hF => ?_) (fun v36 => ?_)
  · have h25_ : v35 = (Bo β3) := hF.1
    clear hF
    refine doesG_un rfl ?_
    obtain rfl := h25_
    refine (does_move (u := (Bo β3)) (ev rfl)).mono ?_; rintro _ _ ⟨rfl, rfl⟩
    exact ⟨rfl, Ext.refl _⟩
  refine RW_d _ rfl (fun v => by dsimp only [List.set]; try rfl) (fun u hu hF => ?_) (fun v37 => ?_)
  · have h26_ : v36 = (Bo β3) := hF.1
    clear hF
    obtain rfl := h26_
    refine doesG_g (b := β3) rfl (yld rfl rfl) (fun hg1 => ?_) (fun hc => ⟨fun hg1 => absurd hg1 hc, Ext.refl _⟩)
    refine (does_move (u := (.slice p_t_ L_t_.length q_t_)) (ev rfl)).mono ?_; rintro _ _ ⟨rfl, rfl⟩
    exact ⟨fun _ => rfl, Ext.refl _⟩
  refine RW_d _ rfl (fun v => by dsimp only [List.set]; try rfl) (fun u hu hF => ?_) (fun v38 => ?_)
  · have h27_ : β3 = false → v37 = (.slice p_t_ L_t_.length q_t_) := hF.1
    have h26_ : v36 = (Bo β3) := hF.2.1
    clear hF
    obtain rfl := h26_
    refine doesG_g (b := β3) rfl (yld rfl rfl) (fun hg1 => ?_) (fun hc => ⟨fun hg1 => absurd hg1 hc, Ext.refl _⟩)
    obtain rfl := h27_ hg1
    refine (does_indexSl (R := RI) (i := 2) (xs := L_t_) (e := el3) Try.underlying27 Try.sizeOf2 (ev rfl) (ev rfl) (Sl.ext (Sl.ext hv_t_ RI.mono (Ext.gr X8 E12)) RI.mono hu) (by first | omega | (simp only [hβ1, hβ2, hβ3, icmp, Bool.or_eq_false_iff, Bool.not_eq_false', Bool.not_eq_true', decide_eq_true_eq, decide_eq_false_iff_not, bne_eq_false_iff_eq] at hg1; omega) | (simp only [hβ1, hβ2, hβ3, icmp, Bool.or_eq_false_iff, Bool.not_eq_false', Bool.not_eq_true', decide_eq_true_eq, decide_eq_false_iff_not, bne_eq_false_iff_eq] at hg1 hg2; omega)) (hel3 (by first | omega | (simp only [hβ1, hβ2, hβ3, icmp, Bool.or_eq_false_iff, Bool.not_eq_false', Bool.not_eq_true', bne_eq_false_iff_eq] at hg1; omega)))).mono ?_; rintro v u' ⟨b, of, cs, hv, hc, hR, hu'⟩; subst hu'
    exact ⟨fun _ => ⟨b, of, cs, hv, hc, hR⟩, Ext.refl _⟩
  refine RW_d _ rfl (fun v => by dsimp only [List.set]; try rfl) (fun u hu hF => ?_) (fun v39 => ?_)
  · have h28_ : β3 = false → PtrR RI u v38 el3 := hF.1
    have h26_ : v36 = (Bo β3) := hF.2.1
    clear hF
    obtain rfl := h26_
    refine doesG_g (b := β3) rfl (yld rfl rfl) (fun hg1 => ?_) (fun hc => ⟨fun hg1 => absurd hg1 hc, Ext.refl _⟩)
    obtain ⟨b28_, o28_, _, rfl, hc28_, rfl⟩ := h28_ hg1
    refine (does_load (u := (Iv el3)) (ev rfl) Try.isAgg2 (Cells.at hc28_ 0 rfl)).mono ?_; rintro _ _ ⟨rfl, rfl⟩
    exact ⟨fun _ => rfl, Ext.refl _⟩
  refine RW_d _ rfl (fun v => by dsimp only [List.set]; try rfl) (fun u hu hF => ?_) (fun v40 => ?_)
  · have h26_ : v36 = (Bo β3) := hF.1
    clear hF
    obtain rfl := h26_
    refine doesG_g (b := β3) rfl (yld rfl rfl) (fun hg1 => ?_) (fun hc => ⟨fun hg1 => absurd hg1 hc, Ext.refl _⟩)
    refine (does_move (u := (.slice p_t_ L_t_.length q_t_)) (ev rfl)).mono ?_; rintro _ _ ⟨rfl, rfl⟩
    exact ⟨fun _ => rfl, Ext.refl _⟩
  refine RW_d _ rfl (fun v => by dsimp only [List.set]; try rfl) (fun u hu hF => ?_) (fun v41 => ?_)
  · have h30_ : β3 = false → v40 = (.slice p_t_ L_t_.length q_t_) := hF.1
    have h26_ : v36 = (Bo β3) := hF.2.1
    clear hF
    obtain rfl := h26_
    refine doesG_g (b := β3) rfl (yld rfl rfl) (fun hg1 => ?_) (fun hc => ⟨fun hg1 => absurd hg1 hc, Ext.refl _⟩)
    obtain rfl := h30_ hg1
    refine (does_indexSl (R := RI) (i := 0) (xs := L_t_) (e := el1) Try.underlying27 Try.sizeOf2 (ev rfl) (ev rfl) (Sl.ext (Sl.ext hv_t_ RI.mono (Ext.gr X8 E12)) RI.mono hu) (by first | omega | (simp only [hβ1, hβ2, hβ3, icmp, Bool.or_eq_false_iff, Bool.not_eq_false', Bool.not_eq_true', decide_eq_true_eq, decide_eq_false_iff_not, bne_eq_false_iff_eq] at hg1; omega) | (simp only [hβ1, hβ2, hβ3, icmp, Bool.or_eq_false_iff, Bool.not_eq_false', Bool.not_eq_true', decide_eq_true_eq, decide_eq_false_iff_not, bne_eq_false_iff_eq] at hg1 hg2; omega)) (hel1 (by first | omega | (simp only [hβ1, hβ2, hβ3, icmp, Bool.or_eq_false_iff, Bool.not_eq_false', Bool.not_eq_true', bne_eq_false_iff_eq] at hg1; omega)))).mono ?_; rintro v u' ⟨b, of, cs, hv, hc, hR, hu'⟩; subst hu'
    exact ⟨fun _ => ⟨b, of, cs, hv, hc, hR⟩, Ext.refl _⟩
  refine RW_d _ rfl (fun v => by dsimp only [List.set]; try rfl) (fun u hu hF => ?_) (fun v42 => ?_)
  · have h31_ : β3 = false → PtrR RI u v41 el1 := hF.1
    have h26_ : v36 = (Bo β3) := hF.2.1
    clear hF
    obtain rfl := h26_
    refine doesG_g (b := β3) rfl (yld rfl rfl) (fun hg1 => ?_) (fun hc => ⟨fun hg1 => absurd hg1 hc, Ext.refl _⟩)
    obtain ⟨b31_, o31_, _, rfl, hc31_, rfl⟩ := h31_ hg1
    refine (does_load (u := (Iv el1)) (ev rfl) Try.isAgg2 (Cells.at hc31_ 0 rfl)).mono ?_; rintro _ _ ⟨rfl, rfl⟩
    exact ⟨fun _ => rfl, Ext.refl _⟩
  refine RW_d _ rfl (fun v => by dsimp only [List.set]; try rfl) (fun u hu hF => ?_) (fun v43 => ?_)
  · have h29_ : β3 = false → v39 = (Iv el3) := hF.1
    have h32_ : β3 = false → v42 = (Iv el1) := hF.2.1
    have h26_ : v36 = (Bo β3) := hF.2.2.1
    clear hF
    obtain rfl := h26_
    refine doesG_g (b := β3) rfl (yld rfl rfl) (fun hg1 => ?_) (fun hc => ⟨fun hg1 => absurd hg1 hc, Ext.refl _⟩)
    obtain rfl := h29_ hg1
    obtain rfl := h32_ hg1
    refine (does_icmp (p := el3) (q := el1) (.inl rfl) (ev rfl) (ev rfl)).mono ?_; rintro _ _ ⟨rfl, rfl⟩
    exact ⟨fun _ => rfl, Ext.refl _⟩
  refine RW_d _ rfl (fun v => by dsimp only [List.set]; try rfl) (fun u hu hF => ?_) (fun v44 => ?_)
  · have h26_ : v36 = (Bo β3) := hF.1
    have h33_ : β3 = false → v43 = (Bo (icmp .eql el3 el1)) := hF.2.1
    clear hF
    refine doesG_un rfl ?_
    skip
    obtain rfl := h26_
    refine (does_pick (b := β3) (u := (Bo true)) (v := v43) (ev rfl) (ev rfl) (ev rfl)).mono ?_; rintro _ _ ⟨rfl, rfl⟩; refine ⟨?_, Ext.refl _⟩; rw [hβ4]; skip
    cases hbb : β3
    all_goals first | (show _ = _; simp only [↓reduceIte, Bool.true_and, Bool.false_and, Bool.true_or, Bool.false_or, Bool.false_eq_true]; done) | (have e_ := h33_ hbb; subst e_; show _ = _; simp only [↓reduceIte, Bool.true_and, Bool.false_and, Bool.true_or, Bool.false_or, Bool.false_eq_true]; done) | rfl | (have e_ := h33_ hbb; subst e_; rfl) | (simp [hbb] at h33_ ⊢; first | done | rfl | (subst h33_; rfl) | simp_all) | (simp [hbb] at h33_ ⊢; done)
  refine RW_fin ?_; intro w45 E46 hP47
  obtain ⟨⟨⟨⟨⟨⟨⟨⟨⟨⟨⟨⟨⟨⟨⟨⟨⟨⟨⟨⟨⟨⟨⟨⟨⟨⟨⟨⟨⟨⟨-, -⟩, -⟩, -⟩, -⟩, -⟩, -⟩, -⟩, -⟩, -⟩, -⟩, -⟩, -⟩, -⟩, -⟩, -⟩, -⟩, -⟩, -⟩, -⟩, -⟩, -⟩, -⟩, -⟩, -⟩, -⟩, -⟩, -⟩, -⟩, -⟩, q48⟩ := hP47
  have X49 := Ext.gr X14 E46
  have q48 : v44 = (Bo β4) := q48
  obtain rfl := q48
  show wpList _ _ _ _ (fr [_, _, _, _, _, _, _, _, _, _, _, _, _, _, _, _, _, _, _, _, _, _, _, _, _, _, _, _, _, _, _, _, _, _, _, _, _, _, _]) _
  refine wpList_nil (hK10 _ _ ?_)
  refine wp_cond_split (t := β4) (ev rfl) (fun c50 => ?_) (fun c50 => ?_)
  · have c50' := c50
    (try simp only [hβ1, hβ2, hβ3, hβ4] at c50')
    (try simp only [icmp, Bool.and_eq_true, Bool.or_eq_true, Bool.and_eq_false_iff, Bool.or_eq_false_iff, Bool.not_eq_true', Bool.not_eq_false', decide_eq_true_eq, decide_eq_false_iff_not, beq_iff_eq, bne_iff_ne, beq_eq_false_iff_ne, bne_eq_false_iff_eq] at c50')
    refine wp_seq_k fun K51 hK51 => ?_
    refine wp_region_lit ?_
    refine q_is rfl rfl (does_assign (u := (Bo false)) (ev rfl)) (by dsimp only [List.set]; try rfl) ?_
    refine wpList_nil (hK51 _ _ ?_)
    refine wp_ret ?_
    dsimp only [Exit.then, Exit.inBlock]
    refine ret_val (v := (Bo false)) (res_T rfl (slot rfl)) X49 ?_
    try simp only [hβ1, hβ2, hβ3, hβ4] at c50
    have x52 : (triOk n_ L_t_) = false := by first | exact triOk_bad (by assumption) (by assumption) (by assumption) (by assumption) | exact triOk_any (by assumption) (by assumption) (by assumption) (by assumption)
    exact (by first | with_reducible rfl | rw [x52] | rfl)
  have c50' := c50
  (try simp only [hβ1, hβ2, hβ3, hβ4] at c50')
  (try simp only [icmp, Bool.and_eq_true, Bool.or_eq_true, Bool.and_eq_false_iff, Bool.or_eq_false_iff, Bool.not_eq_true', Bool.not_eq_false', decide_eq_true_eq, decide_eq_false_iff_not, beq_iff_eq, bne_iff_ne, beq_eq_false_iff_ne, bne_eq_false_iff_eq] at c50')
  refine wp_skip (hK9 _ _ ?_)
  refine wp_seq_k fun K53 hK53 => ?_
  refine wp_region_lit ?_
  refine q_is rfl rfl (does_move (u := (.slice p_t_ L_t_.length q_t_)) (ev rfl)) (by dsimp only [List.set]; try rfl) ?_
  refine q_is rfl rfl (does_makeFunc (u := (.func (.func 56) #[] #[(Pt b2 0)])) (evs rfl) (evs rfl) rfl) (by dsimp only [List.set]; try rfl) ?_
  refine seqd rfl rfl (does_call (args := #[(.slice p_t_ L_t_.length q_t_), (.func (.func 56) #[] #[(Pt b2 0)])]) cal55 (evs rfl) (c_slices_ContainsFunc_int64_int64 (.slice p_t_ L_t_.length q_t_) L_t_ (.func (.func 56) #[] #[(Pt b2 0)]) (fun x => !inI x 0 (IntKind.i64.wrap (n_ - 1))) _ (Sl.ext hv_t_ RI.mono X49) ⟨56, #[], #[(Pt b2 0)], rfl, cal56, fun n0 u hu'  => by simpa using (c_impl_isTriangle_1 n0 b2 0 n_ u (Blk.cells (((hB4.ext E12).ext E46).ext hu')))⟩)) ?_; rintro _ w55 ⟨E54, rfl⟩
  have X56 := Ext.gr X49 E54
  show wpList _ _ _ _ (fr [_, _, _, _, _, _, _, _, _, _, _, _, _, _, _, _, _, _, _, _, _, _, _, _, _, _, _, _, _, _, _, _, _, _, _, _, _, _, _]) _
  refine q_is rfl rfl (does_not (ev rfl)) (by dsimp only [List.set]; try rfl) ?_
  refine q_is rfl rfl (does_assign (u := (Bo (!(L_t_.any (fun x => !inI x 0 (IntKind.i64.wrap (n_ - 1))))))) (ev rfl)) (by dsimp only [List.set]; try rfl) ?_
  refine wpList_nil (hK53 _ _ ?_)
  refine wp_ret ?_
  refine ret_val (v := (Bo (!(L_t_.any (fun x => !inI x 0 (IntKind.i64.wrap (n_ - 1))))))) (res_T rfl (slot rfl)) X56 ?_
  try simp only [hβ1, hβ2, hβ3, hβ4] at c50
  have x57 : (triOk n_ L_t_) = (!(L_t_.any (fun x => !inI x 0 (IntKind.i64.wrap (n_ - 1))))) := by first | exact triOk_bad (by assumption) (by assumption) (by assumption) (by assumption) | exact triOk_any (by assumption) (by assumption) (by assumption) (by assumption)
  exact (by first | with_reducible rfl | rw [x57] | rfl)

/- impl.ValidMesh$1 -/
theorem c_impl_ValidMesh_1 (t_ : Value) (L_t_ : List Int) (m_b : Nat) (m_o : Nat) (m : List Value) (A_m : MeshT) (w : World) (hv_t_ : Sl RI 1 w t_ L_t_) (hc_m : Cells w m_b m_o m) (hv_m : RMeshT w A_m m) : Gives Try.prog 47 #[t_, (Pt m_b m_o)] w (fun v w' => v = (Bo (!triOk (A_m.places.length : Int) L_t_))) := by
  have hlen_t_ := Sl.len hv_t_; obtain ⟨p_t_, q_t_, rfl⟩ := Sl.shape hv_t_
  obtain ⟨y1, y3, rfl, h2, h4⟩ := hv_m
  have hs7 := h2; have hs7l := Sl.len h2; obtain ⟨p5, q6, rfl⟩ := Sl.shape h2
  have hs10 := h4; have hs10l := Sl.len h4; obtain ⟨p8, q9, rfl⟩ := Sl.shape h4
  refine enter [(.slice p_t_ L_t_.length q_t_), (Pt m_b m_o), Ud, Ud, Ud, Ud, Ud, Ud, Ud, Ud] Try.func47 rfl Try.ntmps47 rfl ?_
  refine wp_seq_k fun K11 hK11 => ?_
  refine wp_region_lit ?_
  refine q_is (l' := [(.slice p_t_ L_t_.length q_t_), (Pt m_b m_o), Ud, (Bo false), Ud, Ud, Ud, Ud, Ud, Ud]) rfl rfl (does_assign (u := (Bo false)) (ev rfl)) rfl ?_
  refine wpList_nil (hK11 _ _ ?_)
  refine wp_seq_k fun K12 hK12 => ?_
  refine wp_region_lit ?_
  refine q_is (l' := [(.slice p_t_ L_t_.length q_t_), (Pt m_b m_o), Ud, (Bo false), (.slice p_t_ L_t_.length q_t_), Ud, Ud, Ud, Ud, Ud]) rfl rfl (does_move (u := (.slice p_t_ L_t_.length q_t_)) (ev rfl)) rfl ?_
  refine q_is (l' := [(.slice p_t_ L_t_.length q_t_), (Pt m_b m_o), Ud, (Bo false), (.slice p_t_ L_t_.length q_t_), (Pt m_b m_o), Ud, Ud, Ud, Ud]) rfl rfl (does_fieldAddr (ev rfl) fa32_0) rfl ?_
  refine q_is (l' := [(.slice p_t_ L_t_.length q_t_), (Pt m_b m_o), Ud, (Bo false), (.slice p_t_ L_t_.length q_t_), (Pt m_b m_o), (.slice p5 A_m.places.length q6), Ud, Ud, Ud]) rfl rfl (does_load (u := (.slice p5 A_m.places.length q6)) (ev rfl) Try.isAgg30 (Cells.at hc_m 0 rfl)) rfl ?_
  refine q_is (l' := [(.slice p_t_ L_t_.length q_t_), (Pt m_b m_o), Ud, (Bo false), (.slice p_t_ L_t_.length q_t_), (Pt m_b m_o), (.slice p5 A_m.places.length q6), (Iv (A_m.places.length : Int)), Ud, Ud]) rfl rfl (does_len_slice Try.underlying30 (ev rfl)) rfl ?_
  refine seqd rfl rfl (does_call (args := #[(.slice p_t_ L_t_.length q_t_), (Iv (A_m.places.length : Int))]) cal48 (evs rfl) (c_impl_isTriangle (.slice p_t_ L_t_.length q_t_) L_t_ (A_m.places.length : Int) _ hv_t_)) ?_; rintro _ w14 ⟨E13, rfl⟩
  have X15 := Ext.gr (Ext.refl w) E13
  show wpList _ _ _ _ (fr [(.slice p_t_ L_t_.length q_t_), (Pt m_b m_o), Ud, (Bo false), (.slice p_t_ L_t_.length q_t_), (Pt m_b m_o), (.slice p5 A_m.places.length q6), (Iv (A_m.places.length : Int)), (Bo (triOk (A_m.places.length : Int) L_t_)), Ud]) _
  refine q_is (l' := [(.slice p_t_ L_t_.length q_t_), (Pt m_b m_o), Ud, (Bo false), (.slice p_t_ L_t_.length q_t_), (Pt m_b m_o), (.slice p5 A_m.places.length q6), (Iv (A_m.places.length : Int)), (Bo (triOk (A_m.places.length : Int) L_t_)), (Bo (!(triOk (A_m.places.length : Int) L_t_)))]) rfl rfl (does_not (ev rfl)) rfl ?_
  refine q_is (l' := [(.slice p_t_ L_t_.length q_t_), (Pt m_b m_o), Ud, (Bo (!(triOk (A_m.places.length : Int) L_t_))), (.slice p_t_ L_t_.length q_t_), (Pt m_b m_o), (.slice p5 A_m.places.length q6), (Iv (A_m.places.length : Int)), (Bo (triOk (A_m.places.length : Int) L_t_)), (Bo (!(triOk (A_m.places.length : Int) L_t_)))]) rfl rfl (does_assign (u := (Bo (!(triOk (A_m.places.length : Int) L_t_)))) (ev rfl)) rfl ?_
  refine wpList_nil (hK12 _ _ ?_)
  refine wp_ret ?_
  refine ret_val (v := (Bo (!(triOk (A_m.places.length : Int) L_t_)))) (res_T rfl (slot rfl)) X15 ?_
  have x16 : (!triOk (A_m.places.length : Int) L_t_) = (!(triOk (A_m.places.length : Int) L_t_)) := by first | with_reducible rfl | (simp only []; done) | (simp []; done) | rfl
  exact (by first | with_reducible rfl | rw [x16] | rfl)

/- impl.ValidMesh -/
theorem c_impl_ValidMesh (m : List Value) (A_m : MeshT) (w : World) (hv_m : RMeshT w A_m m) : Gives Try.prog 29 #[(.agg m.toArray)] w (fun v w' => v = (Bo (meshOk A_m))) := by
  obtain ⟨y1, y3, rfl, h2, h4⟩ := hv_m
  have hs7 := h2; have hs7l := Sl.len h2; obtain ⟨p5, q6, rfl⟩ := Sl.shape h2
  have hs10 := h4; have hs10l := Sl.len h4; obtain ⟨p8, q9, rfl⟩ := Sl.shape h4
  refine enter [(.agg #[(.slice p5 A_m.places.length q6), (.slice p8 A_m.tris.length q9)]), Ud, Ud, Ud, Ud, Ud, Ud, Ud, Ud, Ud, Ud, Ud, Ud, Ud, Ud, Ud, Ud, Ud, Ud, Ud, Ud, Ud] Try.func29 rfl Try.ntmps29 rfl ?_
  refine wp_seq_k fun K11 hK11 => ?_
  refine wp_region_lit ?_
  refine seqd rfl rfl (does_box (u := (.agg #[(.slice p5 A_m.places.length q6), (.slice p8 A_m.tris.length q9)])) (ev rfl)) ?_; rintro _ w16 ⟨b12, rfl, hb13, hB14, E15⟩
  have g17 : w.heap.size ≤ b12 := Nat.le_trans (Below.size (Ext.refl w)) hb13
  change Blk _ _ [(.slice p5 A_m.places.length q6), (.slice p8 A_m.tris.length q9)] at hB14
  have X18 := Ext.gr (Ext.refl w) E15
  show wpList _ _ _ _ (fr [(.agg #[(.slice p5 A_m.places.length q6), (.slice p8 A_m.tris.length q9)]), (Pt b12 0), Ud, Ud, Ud, Ud, Ud, Ud, Ud, Ud, Ud, Ud, Ud, Ud, Ud, Ud, Ud, Ud, Ud, Ud, Ud, Ud]) _
  refine q_is (l' := [(.agg #[(.slice p5 A_m.places.length q6), (.slice p8 A_m.tris.length q9)]), (Pt b12 0), (Bo false), Ud, Ud, Ud, Ud, Ud, Ud, Ud, Ud, Ud, Ud, Ud, Ud, Ud, Ud, Ud, Ud, Ud, Ud, Ud]) rfl rfl (does_assign (u := (Bo false)) (ev rfl)) rfl ?_
  refine wpList_nil (hK11 _ _ ?_)
  refine wp_seq_k fun K19 hK19 => ?_
  refine wp_region_lit ?_
  refine q_is (l' := [(.agg #[(.slice p5 A_m.places.length q6), (.slice p8 A_m.tris.length q9)]), (Pt b12 0), (Bo false), Ud, (Pt b12 1), Ud, Ud, Ud, Ud, Ud, Ud, Ud, Ud, Ud, Ud, Ud, Ud, Ud, Ud, Ud, Ud, Ud]) rfl rfl (does_fieldAddr (ev rfl) fa32_1) rfl ?_
  refine q_is (l' := [(.agg #[(.slice p5 A_m.places.length q6), (.slice p8 A_m.tris.length q9)]), (Pt b12 0), (Bo false), Ud, (Pt b12 1), (.slice p8 A_m.tris.length q9), Ud, Ud, Ud, Ud, Ud, Ud, Ud, Ud, Ud, Ud, Ud, Ud, Ud, Ud, Ud, Ud]) rfl rfl (does_load (u := (.slice p8 A_m.tris.length q9)) (ev rfl) Try.isAgg23 (Cells.at (Blk.cells hB14) 1 rfl)) rfl ?_
  refine q_is (l' := [(.agg #[(.slice p5 A_m.places.length q6), (.slice p8 A_m.tris.length q9)]), (Pt b12 0), (Bo false), Ud, (Pt b12 1), (.slice p8 A_m.tris.length q9), (.func (.func 47) #[] #[(Pt b12 0)]), Ud, Ud, Ud, Ud, Ud, Ud, Ud, Ud, Ud, Ud, Ud, Ud, Ud, Ud, Ud]) rfl rfl (does_makeFunc (u := (.func (.func 47) #[] #[(Pt b12 0)])) (evs rfl) (evs rfl) rfl) rfl ?_
  refine seqd rfl rfl (does_call (args := #[(.slice p8 A_m.tris.length q9), (.func (.func 47) #[] #[(Pt b12 0)])]) cal46 (evs rfl) (c_slices_ContainsFunc_SS_int64_int64 (.slice p8 A_m.tris.length q9) A_m.tris (.func (.func 47) #[] #[(Pt b12 0)]) (fun x => !triOk (A_m.places.length : Int) x) _ (Sl.ext hs10 (RS.mono RI.mono) X18) ⟨47, #[], #[(Pt b12 0)], rfl, cal47, fun y0 X0 u hu' ha0 => by simpa using (c_impl_ValidMesh_1 y0 X0 b12 0 [(.slice p5 A_m.places.length q6), (.slice p8 A_m.tris.length q9)] A_m u ha0 (Blk.cells (hB14.ext hu')) ⟨(.slice p5 A_m.places.length q6), (.slice p8 A_m.tris.length q9), rfl, (Sl.ext (Sl.ext hs7 RV3.mono X18) RV3.mono hu'), (Sl.ext (Sl.ext hs10 (RS.mono RI.mono) X18) (RS.mono RI.mono) hu')⟩)⟩)) ?_; rintro _ w21 ⟨E20, rfl⟩
  have X22 := Ext.gr X18 E20
  show wpList _ _ _ _ (fr [(.agg #[(.slice p5 A_m.places.length q6), (.slice p8 A_m.tris.length q9)]), (Pt b12 0), (Bo false), Ud, (Pt b12 1), (.slice p8 A_m.tris.length q9), (.func (.func 47) #[] #[(Pt b12 0)]), (Bo (A_m.tris.any (fun x => !triOk (A_m.places.length : Int) x))), Ud, Ud, Ud, Ud, Ud, Ud, Ud, Ud, Ud, Ud, Ud, Ud, Ud, Ud]) _
  refine q_is (l' := [(.agg #[(.slice p5 A_m.places.length q6), (.slice p8 A_m.tris.length q9)]), (Pt b12 0), (Bo false), (Bo (A_m.tris.any (fun x => !triOk (A_m.places.length : Int) x))), (Pt b12 1), (.slice p8 A_m.tris.length q9), (.func (.func 47) #[] #[(Pt b12 0)]), (Bo (A_m.tris.any (fun x => !triOk (A_m.places.length : Int) x))), Ud, Ud, Ud, Ud, Ud, Ud, Ud, Ud, Ud, Ud, Ud, Ud, Ud, Ud]) rfl rfl (does_assign (u := (Bo (A_m.tris.any (fun x => !triOk (A_m.places.length : Int) x)))) (ev rfl)) rfl ?_
  refine wpList_nil (hK19 _ _ ?_)
  refine wp_seq_k fun K23 hK23 => ?_
  obtain ⟨β1, hβ1⟩ : ∃ b : Bool, b = (A_m.tris.any (fun x => !triOk (A_m.places.length : Int) x)) := ⟨_, rfl⟩
  obtain ⟨β2, hβ2⟩ : ∃ b : Bool, b = (icmp .leq (A_m.places.length : Int) 8192) := ⟨_, rfl⟩
  obtain ⟨β3, hβ3⟩ : ∃ b : Bool, b = (icmp .leq (A_m.tris.length : Int) 9000) := ⟨_, rfl⟩
  refine region_text (
    [Fact.pure [] (fun v => v = (Bo β1)),
    Fact.pure [8] (fun v => v = (Bo (!β1))),
    Fact.pure [9] (fun v => v = (Bo (!β1))),
    Fact.pure [10] (fun v => (!β1) = true → v = (Pt b12 0)),
    Fact.pure [11, 10] (fun v => (!β1) = true → v = (.slice p5 A_m.places.length q6)),
    Fact.pure [12, 10] (fun v => (!β1) = true → v = (Iv (A_m.places.length : Int))),
    Fact.pure [13, 10] (fun v => (!β1) = true → v = (Bo β2)),
    Fact.pure [10, 14] (fun v => v = (Bo ((!β1) && β2))),
    Fact.pure [15] (fun v => v = (Bo ((!β1) && β2))),
    Fact.pure [16] (fun v => ((!β1) && β2) = true → v = (Pt b12 1)),
    Fact.pure [17, 16] (fun v => ((!β1) && β2) = true → v = (.slice p8 A_m.tris.length q9)),
    Fact.pure [18, 16] (fun v => ((!β1) && β2) = true → v = (Iv (A_m.tris.length : Int))),
    Fact.pure [19, 16] (fun v => ((!β1) && β2) = true → v = (Bo β3)),
    Fact.pure [16, 20] (fun v => v = (Bo (((!β1) && β2) && β3)))]) (by simp [Fact.pure, Fact.mem]) ?_
  refine RW_d (fun v24 => [(.agg #[(.slice p5 A_m.places.length q6), (.slice p8 A_m.tris.length q9)]), (Pt b12 0), (Bo false), (Bo (A_m.tris.any (fun x => !triOk (A_m.places.length : Int) x))), (Pt b12 1), (.slice p8 A_m.tris.length q9), (.func (.func 47) #[] #[(Pt b12 0)]), (Bo (A_m.tris.any (fun x => !triOk (A_m.places.length : Int) x))), v24, Ud, Ud, Ud, Ud, Ud, Ud, Ud, Ud, Ud, Ud, Ud, Ud, Ud]) rfl (fun _ => rfl) (fun u hu hF => ?_) (fun v24 => ?_)
  · clear hF
    refine doesG_un rfl ?_
    refine (does_move (u := (Bo (A_m.tris.any (fun x => !triOk (A_m.places.length : Int) x)))) (ev rfl)).mono ?_; rintro _ _ ⟨rfl, rfl⟩
    exact ⟨(by first | rfl | (show _ = _; simp only [hβ1]; done) | (show _ = _; simp only [hβ1]; rfl)), Ext.refl _⟩
  refine RW_d (fun v25 => [(.agg #[(.slice p5 A_m.places.length q6), (.slice p8 A_m.tris.length q9)]), (Pt b12 0), (Bo false), (Bo (A_m.tris.any (fun x => !triOk (A_m.places.length : Int) x))), (Pt b12 1), (.slice p8 A_m.tris.length q9), (.func (.func 47) #[] #[(Pt b12 0)]), (Bo (A_m.tris.any (fun x => !triOk (A_m.places.length : Int) x))), v24, v25, Ud, Ud, Ud, Ud, Ud, Ud, Ud, Ud, Ud, Ud, Ud, Ud]) rfl (fun _ => rfl) (fun u hu hF => ?_) (fun v25 => ?_)
  · have h8_ : v24 = (Bo β1) := hF.1
    clear hF
    refine doesG_un rfl ?_
    obtain rfl := h8_
    refine (does_not (ev rfl)).mono ?_; rintro _ _ ⟨rfl, rfl⟩
    exact ⟨rfl, Ext.refl _⟩
  refine RW_d (fun v26 => [(.agg #[(.slice p5 A_m.places.length q6), (.slice p8 A_m.tris.length q9)]), (Pt b12 0), (Bo false), (Bo (A_m.tris.any (fun x => !triOk (A_m.places.length : Int) x))), (Pt b12 1), (.slice p8 A_m.tris.length q9), (.func (.func 47) #[] #[(Pt b12 0)]), (Bo (A_m.tris.any (fun x => !triOk (A_m.places.length : Int) x))), v24, v25, v26, Ud, Ud, Ud, Ud, Ud, Ud, Ud, Ud, Ud, Ud, Ud]) rfl (fun _ => rfl) (fun u hu hF => ?_) (fun v26 => ?_)
  · have h9_ : v25 = (Bo (!β1)) := hF.1
    clear hF
    refine doesG_un rfl ?_
    obtain rfl := h9_
    refine (does_move (u := (Bo (!β1))) (ev rfl)).mono ?_; rintro _ _ ⟨rfl, rfl⟩
    exact ⟨rfl, Ext.refl _⟩
  refine RW_d (fun v27 => [(.agg #[(.slice p5 A_m.places.length q6), (.slice p8 A_m.tris.length q9)]), (Pt b12 0), (Bo false), (Bo (A_m.tris.any (fun x => !triOk (A_m.places.length : Int) x))), (Pt b12 1), (.slice p8 A_m.tris.length q9), (.func (.func 47) #[] #[(Pt b12 0)]), (Bo (A_m.tris.any (fun x => !triOk (A_m.places.length : Int) x))), v24, v25, v26, v27, Ud, Ud, Ud, Ud, Ud, Ud, Ud, Ud, Ud, Ud]) rfl (fun _ => rfl) (fun u hu hF => ?_) (fun v27 => ?_)
  · have h10_ : v26 = (Bo (!β1)) := hF.1
    clear hF
    obtain rfl := h10_
    refine doesG_g (b := (!β1)) rfl (yld rfl rfl) (fun hg1 => ?_) (fun hc => ⟨fun hg1 => absurd hg1 hc, Ext.refl _⟩)
    refine (does_fieldAddr (ev rfl) fa32_0).mono ?_; rintro _ _ ⟨rfl, rfl⟩
    exact ⟨fun _ => rfl, Ext.refl _⟩
  refine RW_d (fun v28 => [(.agg #[(.slice p5 A_m.places.length q6), (.slice p8 A_m.tris.length q9)]), (Pt b12 0), (Bo false), (Bo (A_m.tris.any (fun x => !triOk (A_m.places.length : Int) x))), (Pt b12 1), (.slice p8 A_m.tris.length q9), (.func (.func 47) #[] #[(Pt b12 0)]), (Bo (A_m.tris.any (fun x => !triOk (A_m.places.length : Int) x))), v24, v25, v26, v27, v28, Ud, Ud, Ud, Ud, Ud, Ud, Ud, Ud, Ud]) rfl (fun _ => rfl) (fun u hu hF => ?_) (fun v28 => ?_)
  · have h11_ : (!β1) = true → v27 = (Pt b12 0) := hF.1
    have h10_ : v26 = (Bo (!β1)) := hF.2.1
    clear hF
    obtain rfl := h10_
    refine doesG_g (b := (!β1)) rfl (yld rfl rfl) (fun hg1 => ?_) (fun hc => ⟨fun hg1 => absurd hg1 hc, Ext.refl _⟩)
    obtain rfl := h11_ hg1
    refine (does_load (u := (.slice p5 A_m.places.length q6)) (ev rfl) Try.isAgg30 (Cells.at (Blk.cells ((hB14.ext E20).ext hu)) 0 rfl)).mono ?_; rintro _ _ ⟨rfl, rfl⟩
    exact ⟨fun _ => rfl, Ext.refl _⟩
  refine RW_d (fun v29 => [(.agg #[(.slice p5 A_m.places.length q6), (.slice p8 A_m.tris.length q9)]), (Pt b12 0), (Bo false), (Bo (A_m.tris.any (fun x => !triOk (A_m.places.length : Int) x))), (Pt b12 1), (.slice p8 A_m.tris.length q9), (.func (.func 47) #[] #[(Pt b12 0)]), (Bo (A_m.tris.any (fun x => !triOk (A_m.places.length : Int) x))), v24, v25, v26, v27, v28, v29, Ud, Ud, Ud, Ud, Ud, Ud, Ud, Ud]) rfl (fun _ => rfl) (fun u hu hF => ?_) (fun v29 => ?_)
  · have h12_ : (!β1) = true → v28 = (.slice p5 A_m.places.length q6) := hF.1
    have h10_ : v26 = (Bo (!β1)) := hF.2.1
    clear hF
    obtain rfl := h10_
    refine doesG_g (b := (!β1)) rfl (yld rfl rfl) (fun hg1 => ?_) (fun hc => ⟨fun hg1 => absurd hg1 hc, Ext.refl _⟩)
    obtain rfl := h12_ hg1
    refine (does_len_slice Try.underlying30 (ev rfl)).mono ?_; rintro _ _ ⟨rfl, rfl⟩
    exact ⟨fun _ => rfl, Ext.refl _⟩
  refine RW_d (fun v30 => [(.agg #[(.slice p5 A_m.places.length q6), (.slice p8 A_m.tris.length q9)]), (Pt b12 0), (Bo false), (Bo (A_m.tris.any (fun x => !triOk (A_m.places.length : Int) x))), (Pt b12 1), (.slice p8 A_m.tris.length q9), (.func (.func 47) #[] #[(Pt b12 0)]), (Bo (A_m.tris.any (fun x => !triOk (A_m.places.length : Int) x))), v24, v25, v26, v27, v28, v29, v30, Ud, Ud, Ud, Ud, Ud, Ud, Ud]) rfl (fun _ => rfl) (fun u hu hF => ?_) (fun v30 => ?_)
  · have h13_ : (!β1) = true → v29 = (Iv (A_m.places.length : Int)) := hF.1
    have h10_ : v26 = (Bo (!β1)) := hF.2.1
    clear hF
    obtain rfl := h10_
    refine doesG_g (b := (!β1)) rfl (yld rfl rfl) (fun hg1 => ?_) (fun hc => ⟨fun hg1 => absurd hg1 hc, Ext.refl _⟩)
    obtain rfl := h13_ hg1
    refine (does_icmp (p := (A_m.places.length : Int)) (q := 8192) (.inr (.inr (.inr (.inl rfl)))) (ev rfl) (ev rfl)).mono ?_; rintro _ _ ⟨rfl, rfl⟩
    exact ⟨fun _ => (by first | rfl | (show _ = _; simp only [hβ2]; done) | (show _ = _; simp only [hβ2]; rfl)), Ext.refl _⟩
  refine RW_d (fun v31 => [(.agg #[(.slice p5 A_m.places.length q6), (.slice p8 A_m.tris.length q9)]), (Pt b12 0), (Bo false), (Bo (A_m.tris.any (fun x => !triOk (A_m.places.length : Int) x))), (Pt b12 1), (.slice p8 A_m.tris.length q9), (.func (.func 47) #[] #[(Pt b12 0)]), (Bo (A_m.tris.any (fun x => !triOk (A_m.places.length : Int) x))), v24, v25, v26, v27, v28, v29, v30, v31, Ud, Ud, Ud, Ud, Ud, Ud]) rfl (fun _ => rfl) (fun u hu hF => ?_) (fun v31 => ?_)
  · have h10_ : v26 = (Bo (!β1)) := hF.1
    have h14_ : (!β1) = true → v30 = (Bo β2) := hF.2.1
    clear hF
    refine doesG_un rfl ?_
    skip
    obtain rfl := h10_
    refine (does_pick (b := (!β1)) (u := v30) (v := (Bo false)) (ev rfl) (ev rfl) (ev rfl)).mono ?_; rintro _ _ ⟨rfl, rfl⟩; refine ⟨?_, Ext.refl _⟩; skip
    cases hbb : (!β1)
    all_goals first | (show _ = _; simp only [↓reduceIte, Bool.true_and, Bool.false_and, Bool.true_or, Bool.false_or, Bool.false_eq_true]; done) | (have e_ := h14_ hbb; subst e_; show _ = _; simp only [↓reduceIte, Bool.true_and, Bool.false_and, Bool.true_or, Bool.false_or, Bool.false_eq_true]; done) | rfl | (have e_ := h14_ hbb; subst e_; rfl) | (simp [hbb] at h14_ ⊢; first | done | rfl | (subst h14_; rfl) | simp_all) | (simp [hbb] at h14_ ⊢; done)
  refine RW_d (fun v32 => [(.agg #[(.slice p5 A_m.places.length q6), (.slice p8 A_m.tris.length q9)]), (Pt b12 0), (Bo false), (Bo (A_m.tris.any (fun x => !triOk (A_m.places.length : Int) x))), (Pt b12 1), (.slice p8 A_m.tris.length q9), (.func (.func 47) #[] #[(Pt b12 0)]), (Bo (A_m.tris.any (fun x => !triOk (A_m.places.length : Int) x))), v24, v25, v26, v27, v28, v29, v30, v31, v32, Ud, Ud, Ud, Ud, Ud]) rfl (fun _ => rfl) (fun u hu hF => ?_) (fun v32 => ?_)
  · have h15_ : v31 = (Bo ((!β1) && β2)) := hF.1
    clear hF
    refine doesG_un rfl ?_
    obtain rfl := h15_
    refine (does_move (u := (Bo ((!β1) && β2))) (ev rfl)).mono ?_; rintro _ _ ⟨rfl, rfl⟩
    exact ⟨rfl, Ext.refl _⟩
  refine RW_d (fun v33 => [(.agg #[(.slice p5 A_m.places.length q6), (.slice p8 A_m.tris.length q9)]), (Pt b12 0), (Bo false), (Bo (A_m.tris.any (fun x => !triOk (A_m.places.length : Int) x))), (Pt b12 1), (.slice p8 A_m.tris.length q9), (.func (.func 47) #[] #[(Pt b12 0)]), (Bo (A_m.tris.any (fun x => !triOk (A_m.places.length : Int) x))), v24, v25, v26, v27, v28, v29, v30, v31, v32, v33, Ud, Ud, Ud, Ud]) rfl (fun _ => rfl) (fun u hu hF => ?_) (fun v33 => ?_)
  · have h16_ : v32 = (Bo ((!β1) && β2)) := hF.1
    clear hF
    obtain rfl := h16_
    refine doesG_g (b := ((!β1) && β2)) rfl (yld rfl rfl) (fun hg1 => ?_) (fun hc => ⟨fun hg1 => absurd hg1 hc, Ext.refl _⟩)
    refine (does_fieldAddr (ev rfl) fa32_1).mono ?_; rintro _ _ ⟨rfl, rfl⟩
    exact ⟨fun _ => rfl, Ext.refl _⟩
  refine RW_d (fun v34 => [(.agg #[(.slice p5 A_m.places.length q6), (.slice p8 A_m.tris.length q9)]), (Pt b12 0), (Bo false), (Bo (A_m.tris.any (fun x => !triOk (A_m.places.length : Int) x))), (Pt b12 1), (.slice p8 A_m.tris.length q9), (.func (.func 47) #[] #[(Pt b12 0)]), (Bo (A_m.tris.any (fun x => !triOk (A_m.places.length : Int) x))), v24, v25, v26, v27, v28, v29, v30, v31, v32, v33, v34, Ud, Ud, Ud]) rfl (fun _ => rfl) (fun u hu hF => ?_) (fun v34 => ?_)
  · have h17_ : ((!β1) && β2) = true → v33 = (Pt b12 1) := hF.1
    have h16_ : v32 = (Bo ((!β1) && β2)) := hF.2.1
    clear hF
    obtain rfl := h16_
    refine doesG_g (b := ((!β1) && β2)) rfl (yld rfl rfl) (fun hg1 => ?_) (fun hc => ⟨fun hg1 => absurd hg1 hc, Ext.refl _⟩)
    obtain rfl := h17_ hg1
    refine (does_load (u := (.slice p8 A_m.tris.length q9)) (ev rfl) Try.isAgg23 (Cells.at (Blk.cells ((hB14.ext E20).ext hu)) 1 rfl)).mono ?_; rintro _ _ ⟨rfl, rfl⟩
    exact ⟨fun _ => rfl, Ext.refl _⟩
  refine RW_d (fun v35 => [(.agg #[(.slice p5 A_m.places.length q6), (.slice p8 A_m.tris.length q9)]), (Pt b12 0), (Bo false), (Bo (A_m.tris.any (fun x => !triOk (A_m.places.length : Int) x))), (Pt b12 1), (.slice p8 A_m.tris.length q9), (.func (.func 47) #[] #[(Pt b12 0)]), (Bo (A_m.tris.any (fun x => !triOk (A_m.places.length : Int) x))), v24, v25, v26, v27, v28, v29, v30, v31, v32, v33, v34, v35, Ud, Ud]) rfl (fun _ => rfl) (fun u hu hF => ?_) (fun v35 => ?_)
  · have h18_ : ((!β1) && β2) = true → v34 = (.slice p8 A_m.tris.length q9) := hF.1
    have h16_ : v32 = (Bo ((!β1) && β2)) := hF.2.1
    clear hF
    obtain rfl := h16_
    refine doesG_g (b := ((!β1) && β2)) rfl (yld rfl rfl) (fun hg1 => ?_) (fun hc => ⟨fun hg1 => absurd hg1 hc, Ext.refl _⟩)
    obtain rfl := h18_ hg1
    refine (does_len_slice Try.underlying23 (ev rfl)).mono ?_; rintro _ _ ⟨rfl, rfl⟩
    exact ⟨fun _ => rfl, Ext.refl _⟩
  refine RW_d (fun v36 => [(.agg #[(.slice p5 A_m.places.length q6), (.slice p8 A_m.tris.length q9)]), (Pt b12 0), (Bo false), (Bo (A_m.tris.any (fun x => !triOk (A_m.places.length : Int) x))), (Pt b12 1), (.slice p8 A_m.tris.length q9), (.func (.func 47) #[] #[(Pt b12 0)]), (Bo (A_m.tris.any (fun x => !triOk (A_m.places.length : Int) x))), v24, v25, v26, v27, v28, v29, v30, v31, v32, v33, v34, v35, v36, Ud]) rfl (fun _ => rfl) (fun u hu hF => ?_) (fun v36 => ?_)
  · have h19_ : ((!β1) && β2) = true → v35 = (Iv (A_m.tris.length : Int)) := hF.1
    have h16_ : v32 = (Bo ((!β1) && β2)) := hF.2.1
    clear hF
    obtain rfl := h16_
    refine doesG_g (b := ((!β1) && β2)) rfl (yld rfl rfl) (fun hg1 => ?_) (fun hc => ⟨fun hg1 => absurd hg1 hc, Ext.refl _⟩)
    obtain rfl := h19_ hg1
    refine (does_icmp (p := (A_m.tris.length : Int)) (q := 9000) (.inr (.inr (.inr (.inl rfl)))) (ev rfl) (ev rfl)).mono ?_; rintro _ _ ⟨rfl, rfl⟩
    exact ⟨fun _ => (by first | rfl | (show _ = _; simp only [hβ3]; done) | (show _ = _; simp only [hβ3]; rfl)), Ext.refl _⟩
  refine RW_d (fun v37 => [(.agg #[(.slice p5 A_m.places.length q6), (.slice p8 A_m.tris.length q9)]), (Pt b12 0), (Bo false), (Bo (A_m.tris.any (fun x => !triOk (A_m.places.length : Int) x))), (Pt b12 1), (.slice p8 A_m.tris.length q9), (.func (.func 47) #[] #[(Pt b12 0)]), (Bo (A_m.tris.any (fun x => !triOk (A_m.places.length : Int) x))), v24, v25, v26, v27, v28, v29, v30, v31, v32, v33, v34, v35, v36, v37]) rfl (fun _ => rfl) (fun u hu hF => ?_) (fun v37 => ?_)
  · have h16_ : v32 = (Bo ((!β1) && β2)) := hF.1
    have h20_ : ((!β1) && β2) = true → v36 = (Bo β3) := hF.2.1
    clear hF
    refine doesG_un rfl ?_
    skip
    obtain rfl := h16_
    refine (does_pick (b := ((!β1) && β2)) (u := v36) (v := (Bo false)) (ev rfl) (ev rfl) (ev rfl)).mono ?_; rintro _ _ ⟨rfl, rfl⟩; refine ⟨?_, Ext.refl _⟩; skip
    cases hbb : ((!β1) && β2)
    all_goals first | (show _ = _; simp only [↓reduceIte, Bool.true_and, Bool.false_and, Bool.true_or, Bool.false_or, Bool.false_eq_true]; done) | (have e_ := h20_ hbb; subst e_; show _ = _; simp only [↓reduceIte, Bool.true_and, Bool.false_and, Bool.true_or, Bool.false_or, Bool.false_eq_true]; done) | rfl | (have e_ := h20_ hbb; subst e_; rfl) | (simp [hbb] at h20_ ⊢; first | done | rfl | (subst h20_; rfl) | simp_all) | (simp [hbb] at h20_ ⊢; done)
  refine RW_fin ?_; intro w38 E39 hP40
  obtain ⟨⟨⟨⟨⟨⟨⟨⟨⟨⟨⟨⟨⟨⟨-, -⟩, -⟩, -⟩, -⟩, -⟩, -⟩, -⟩, -⟩, -⟩, -⟩, -⟩, -⟩, -⟩, q41⟩ := hP40
  have X42 := Ext.gr X22 E39
  have q41 : v37 = (Bo (((!β1) && β2) && β3)) := q41
  obtain rfl := q41
  show wpList _ _ _ _ (fr [(.agg #[(.slice p5 A_m.places.length q6), (.slice p8 A_m.tris.length q9)]), (Pt b12 0), (Bo false), (Bo (A_m.tris.any (fun x => !triOk (A_m.places.length : Int) x))), (Pt b12 1), (.slice p8 A_m.tris.length q9), (.func (.func 47) #[] #[(Pt b12 0)]), (Bo (A_m.tris.any (fun x => !triOk (A_m.places.length : Int) x))), v24, v25, v26, v27, v28, v29, v30, v31, v32, v33, v34, v35, v36, (Bo (((!β1) && β2) && β3))]) _
  refine q_is (l' := [(.agg #[(.slice p5 A_m.places.length q6), (.slice p8 A_m.tris.length q9)]), (Pt b12 0), (Bo (((!β1) && β2) && β3)), (Bo (A_m.tris.any (fun x => !triOk (A_m.places.length : Int) x))), (Pt b12 1), (.slice p8 A_m.tris.length q9), (.func (.func 47) #[] #[(Pt b12 0)]), (Bo (A_m.tris.any (fun x => !triOk (A_m.places.length : Int) x))), v24, v25, v26, v27, v28, v29, v30, v31, v32, v33, v34, v35, v36, (Bo (((!β1) && β2) && β3))]) rfl rfl (does_assign (u := (Bo (((!β1) && β2) && β3))) (ev rfl)) rfl ?_
  refine wpList_nil (hK23 _ _ ?_)
  refine wp_ret ?_
  refine ret_val (v := (Bo (((!β1) && β2) && β3))) (res_T rfl (slot rfl)) X42 ?_
  have x43 : (meshOk A_m) = (((!β1) && β2) && β3) := by first | with_reducible rfl | (simp only [meshOk, hβ1, hβ2, hβ3]; done) | (simp [meshOk, hβ1, hβ2, hβ3]; done) | rfl
  exact (by first | with_reducible rfl | rw [x43] | rfl)

/- slices.Grow[[]int64,int64] -/
theorem c_slices_Grow_int64_int64 (n_ : Int) (w : World) (hn : 0 ≤ n_ ∧ n_ ≤ 1000000) : Gives Try.prog 58 #[(.slice none 0 0), (Iv n_)] w (fun v w' => ∃ y_1 : Value, ∃ bo_2 : Nat, v = y_1 ∧ w.heap.size ≤ bo_2 ∧ Own RI 1 2 bo_2 w'.heap.size w' y_1 []) := by
  refine enter [(.slice none 0 0), (Iv n_), Ud, Ud, Ud, Ud, Ud, Ud, Ud, Ud, Ud, Ud, Ud, Ud, Ud, Ud, Ud, Ud, Ud, Ud, Ud, Ud, Ud, Ud, Ud, Ud, Ud] Try.func58 rfl Try.ntmps58 rfl ?_
  refine wp_seq_k fun K1 hK1 => ?_
  refine wp_region_lit ?_
  refine q_is rfl rfl (does_assign (u := (.slice none 0 0)) (ev rfl)) (by dsimp only [List.set]; try rfl) ?_
  refine wpList_nil (hK1 _ _ ?_)
  refine wp_seq_k fun K2 hK2 => ?_
  refine wp_seq_k fun K3 hK3 => ?_
  refine wp_region_lit ?_
  refine q_is rfl rfl (does_move (u := (Iv n_)) (ev rfl)) (by dsimp only [List.set]; try rfl) ?_
  refine q_is rfl rfl (does_icmp (p := n_) (q := 0) (.inr (.inr (.inl rfl))) (ev rfl) (ev rfl)) (by dsimp only [List.set]; try rfl) ?_
  refine wpList_nil (hK3 _ _ ?_)
  refine wp_cond_split (t := icmp .lss n_ 0) (ev rfl) (fun c4 => ?_) (fun c4 => ?_)
  · have c4' := c4
    (try simp only [icmp, Bool.and_eq_true, Bool.or_eq_true, Bool.and_eq_false_iff, Bool.or_eq_false_iff, Bool.not_eq_true', Bool.not_eq_false', decide_eq_true_eq, decide_eq_false_iff_not, beq_iff_eq, bne_iff_ne, beq_eq_false_iff_ne, bne_eq_false_iff_eq] at c4')
    exfalso; simp only [icmp, decide_eq_true_eq] at c4; omega
  have c4' := c4
  (try simp only [icmp, Bool.and_eq_true, Bool.or_eq_true, Bool.and_eq_false_iff, Bool.or_eq_false_iff, Bool.not_eq_true', Bool.not_eq_false', decide_eq_true_eq, decide_eq_false_iff_not, beq_iff_eq, bne_iff_ne, beq_eq_false_iff_ne, bne_eq_false_iff_eq] at c4')
  refine wp_skip (hK2 _ _ ?_)
  refine wp_seq_k fun K5 hK5 => ?_
  refine wp_seq_k fun K6 hK6 => ?_
  refine wp_region_lit ?_
  refine q_is rfl rfl (does_move (u := (Iv n_)) (ev rfl)) (by dsimp only [List.set]; try rfl) ?_
  refine q_is rfl rfl (does_move (u := (.slice none 0 0)) (ev rfl)) (by dsimp only [List.set]; try rfl) ?_
  refine q_is rfl rfl (does_cap Try.underlying27 (ev rfl)) (by dsimp only [List.set]; try rfl) ?_
  refine q_is rfl rfl (does_move (u := (.slice none 0 0)) (ev rfl)) (by dsimp only [List.set]; try rfl) ?_
  refine q_is rfl rfl (does_len_slice Try.underlying27 (ev rfl)) (by dsimp only [List.set]; try rfl) ?_
  refine q_is rfl rfl (does_iarith (p := 0) (q := 0) (r := (0)) (ev rfl) (ev rfl) (.inr (.inl ⟨rfl, rfl⟩))) (by dsimp only [List.set]; try rfl) ?_
  refine q_is rfl rfl (does_iarith (p := n_) (q := 0) (r := n_ - 0) (ev rfl) (ev rfl) (.inr (.inl ⟨rfl, (in_i64 (by omega) (by omega)).symm⟩))) (by dsimp only [List.set]; try rfl) ?_
  refine q_is rfl rfl (does_assign (u := (Iv (n_ - 0))) (ev rfl)) (by dsimp only [List.set]; try rfl) ?_
  refine wpList_nil (hK6 _ _ ?_)
  refine wp_seq_k fun K7 hK7 => ?_
  refine wp_region_lit ?_
  refine q_is rfl rfl (does_move (u := (Iv (n_ - 0))) (ev rfl)) (by dsimp only [List.set]; try rfl) ?_
  refine q_is rfl rfl (does_icmp (p := n_ - 0) (q := 0) (.inr (.inr (.inr (.inr (.inl rfl))))) (ev rfl) (ev rfl)) (by dsimp only [List.set]; try rfl) ?_
  refine wpList_nil (hK7 _ _ ?_)
  refine wp_cond_split (t := icmp .gtr (n_ - 0) 0) (ev rfl) (fun c8 => ?_) (fun c8 => ?_)
  · have c8' := c8
    (try simp only [icmp, Bool.and_eq_true, Bool.or_eq_true, Bool.and_eq_false_iff, Bool.or_eq_false_iff, Bool.not_eq_true', Bool.not_eq_false', decide_eq_true_eq, decide_eq_false_iff_not, beq_iff_eq, bne_iff_ne, beq_eq_false_iff_ne, bne_eq_false_iff_eq] at c8')
    refine wp_region_lit ?_
    refine q_is rfl rfl (does_move (u := (.slice none 0 0)) (ev rfl)) (by dsimp only [List.set]; try rfl) ?_
    refine q_is rfl rfl (does_move (u := (.slice none 0 0)) (ev rfl)) (by dsimp only [List.set]; try rfl) ?_
    refine q_is rfl rfl (does_cap Try.underlying27 (ev rfl)) (by dsimp only [List.set]; try rfl) ?_
    refine q_is rfl rfl (does_slice0n Try.underlying27 Try.sizeOf2 (ev rfl) (ev rfl)) (by dsimp only [List.set]; try rfl) ?_
    refine q_is rfl rfl (does_move (u := (Iv (n_ - 0))) (ev rfl)) (by dsimp only [List.set]; try rfl) ?_
    refine seqd rfl rfl (does_appendMake' (R := RI) (k := 1) (m := (n_ - 0)) Try.underlying27 Try.underlying3 inf2 rfl (ev rfl) (ev rfl) (by omega) (by omega)) ?_; rintro _ w15 ⟨b9, cp10, rfl, hb11, hcp12, hO13, E14⟩
    have X16 := Ext.gr (Ext.refl w) E14
    show wpList _ _ _ _ (fr [_, _, _, _, _, _, _, _, _, _, _, _, _, _, _, _, _, _, _, _, _, _, _, _, _, _, _]) _
    refine q_is rfl rfl (does_move (u := (.slice none 0 0)) (ev rfl)) (by dsimp only [List.set]; try rfl) ?_
    refine q_is rfl rfl (does_len_slice Try.underlying27 (ev rfl)) (by dsimp only [List.set]; try rfl) ?_
    refine q_is rfl rfl (does_slice0o (b := b9) (c := cp10) Try.underlying27 Try.sizeOf2 (ev rfl) (ev rfl) (by assumption)) (by dsimp only [List.set]; try rfl) ?_
    have g17 : w.heap.size ≤ b9 := Nat.le_trans (Nat.le_refl _) hb11
    have hH18 : Hang w.heap.size w15 (fun u => Sl RI 1 u (.slice (some ⟨b9, 0, none⟩) 0 cp10) ([])) := Own.hang hO13 RI.flat (by decide) hb11 (Below.size E14)
    show wpList _ _ _ _ (fr [_, _, _, _, _, _, _, _, _, _, _, _, _, _, _, _, _, _, _, _, _, _, _, _, _, _, _]) _
    refine q_is rfl rfl (does_assign (u := (.slice (some ⟨b9, 0, none⟩) 0 cp10)) (ev rfl)) (by dsimp only [List.set]; try rfl) ?_
    refine wpList_nil (hK5 _ _ ?_)
    refine wp_seq_k fun K19 hK19 => ?_
    refine wp_region_lit ?_
    refine q_is rfl rfl (does_move (u := (.slice (some ⟨b9, 0, none⟩) 0 cp10)) (ev rfl)) (by dsimp only [List.set]; try rfl) ?_
    refine q_is rfl rfl (does_assign (u := (.slice (some ⟨b9, 0, none⟩) 0 cp10)) (ev rfl)) (by dsimp only [List.set]; try rfl) ?_
    refine wpList_nil (hK19 _ _ ?_)
    refine wp_ret ?_
    refine ret_val (v := (.slice (some ⟨b9, 0, none⟩) 0 cp10)) (res_T rfl (slot rfl)) X16 ?_
    exact ⟨(.slice (some ⟨b9, 0, none⟩) 0 cp10), b9, rfl, (Nat.le_trans (Nat.le_refl _) hb11), hO13⟩
  have c8' := c8
  (try simp only [icmp, Bool.and_eq_true, Bool.or_eq_true, Bool.and_eq_false_iff, Bool.or_eq_false_iff, Bool.not_eq_true', Bool.not_eq_false', decide_eq_true_eq, decide_eq_false_iff_not, beq_iff_eq, bne_iff_ne, beq_eq_false_iff_ne, bne_eq_false_iff_eq] at c8')
  refine wp_skip (hK5 _ _ ?_)
  refine wp_seq_k fun K20 hK20 => ?_
  refine wp_region_lit ?_
  refine q_is rfl rfl (does_move (u := (.slice none 0 0)) (ev rfl)) (by dsimp only [List.set]; try rfl) ?_
  refine q_is rfl rfl (does_assign (u := (.slice none 0 0)) (ev rfl)) (by dsimp only [List.set]; try rfl) ?_
  refine wpList_nil (hK20 _ _ ?_)
  refine wp_ret ?_
  refine ret_val (v := (.slice none 0 0)) (res_T rfl (slot rfl)) (Ext.refl w) ?_
  exact ⟨(.slice none 0 0), w.heap.size, rfl, (Nat.le_refl _), Own.nil⟩

/- slices.Concat[[]int64,int64] -/
theorem c_slices_Concat_int64_int64 (xss : Value) (L_xss : List (List Int)) (w : World) (hv_xss : Sl (RS RI 1) 1 w xss L_xss) (hn : liSum L_xss L_xss.length ≤ 1000000) : Gives Try.prog 49 #[xss] w (fun v w' => ∃ y_1 : Value, ∃ Lw_2 : List Nat, v = y_1 ∧ Hang w.heap.size w' (fun u => Sl RI 1 u y_1 L_xss.flatten) ∧ WL 1 w.heap.size w' Lw_2 y_1 L_xss.flatten.length) := by
  have hlen_xss := Sl.len hv_xss; obtain ⟨p_xss, q_xss, rfl⟩ := Sl.shape hv_xss
  refine enter [(.slice p_xss L_xss.length q_xss), Ud, Ud, Ud, Ud, Ud, Ud, Ud, Ud, Ud, Ud, Ud, Ud, Ud, Ud, Ud, Ud, Ud, Ud, Ud, Ud, Ud, Ud, Ud, Ud, Ud, Ud, Ud, Ud, Ud, Ud, Ud, Ud, Ud, Ud, Ud] Try.func49 rfl Try.ntmps49 rfl ?_
  refine wp_seq_k fun K1 hK1 => ?_
  refine wp_region_lit ?_
  refine q_is rfl rfl (does_assign (u := (.slice none 0 0)) (ev rfl)) (by dsimp only [List.set]; try rfl) ?_
  refine wpList_nil (hK1 _ _ ?_)
  refine wp_seq_k fun K2 hK2 => ?_
  refine wp_region_lit ?_
  refine q_is rfl rfl (does_assign (u := (Iv 0)) (ev rfl)) (by dsimp only [List.set]; try rfl) ?_
  refine wpList_nil (hK2 _ _ ?_)
  refine wp_seq_k fun K3 hK3 => ?_
  refine wp_seq_k fun K4 hK4 => ?_
  refine wp_region_lit ?_
  refine q_is rfl rfl (does_move (u := (.slice p_xss L_xss.length q_xss)) (ev rfl)) (by dsimp only [List.set]; try rfl) ?_
  refine q_is rfl rfl (does_len_slice Try.underlying23 (ev rfl)) (by dsimp only [List.set]; try rfl) ?_
  refine q_is rfl rfl (does_move (u := (Iv 0)) (ev rfl)) (by dsimp only [List.set]; try rfl) ?_
  refine wpList_nil (hK4 _ _ ?_)
  refine wp_block ?_
  refine loop_ghost (σ := Nat) (fun k a w' => ∃ u5 : Nat → Value, a = fr [(.slice p_xss L_xss.length q_xss), Ud, (.slice none 0 0), (Iv ((liSum L_xss k : Nat) : Int)), Ud, (u5 5), Ud, Ud, Ud, (.slice p_xss L_xss.length q_xss), (Iv (L_xss.length : Int)), (Iv (k : Int)), (u5 12), (u5 13), (u5 14), (u5 15), (u5 16), (u5 17), (u5 18), (u5 19), (u5 20), (u5 21), (u5 22), Ud, Ud, Ud, Ud, Ud, Ud, Ud, Ud, Ud, Ud, Ud, Ud, Ud] ∧ Ext w w' ∧ (k ≤ L_xss.length)) (fun k => L_xss.length - k) 0 ?_ ?_
  · refine ⟨fun t => (([(.slice p_xss L_xss.length q_xss), Ud, (.slice none 0 0), (Iv 0), Ud, Ud, Ud, Ud, Ud, (.slice p_xss L_xss.length q_xss), (Iv (L_xss.length : Int)), (Iv 0), Ud, Ud, Ud, Ud, Ud, Ud, Ud, Ud, Ud, Ud, Ud, Ud, Ud, Ud, Ud, Ud, Ud, Ud, Ud, Ud, Ud, Ud, Ud, Ud] : List Value)[t]?).getD undef, rfl, Ext.refl _, ?_⟩
    exact Nat.zero_le _
  · rintro k a w6 ⟨u5, rfl, E7, hk⟩
    have X9 := Ext.gr (Ext.refl w) E7
    have hmo := liSum_mono L_xss (j := k) (k := L_xss.length) hk
    refine wp_seq_k fun K10 hK10 => ?_
    refine wp_region_lit ?_
    refine q_is rfl rfl (does_icmp (p := (k : Int)) (q := (L_xss.length : Int)) (.inr (.inr (.inl rfl))) (ev rfl) (ev rfl)) (by dsimp only [List.set]; try rfl) ?_
    refine wpList_nil (hK10 _ _ ?_)
    refine wp_seq_k fun K11 hK11 => ?_
    refine wp_cond_split (t := icmp .lss (k : Int) (L_xss.length : Int)) (ev rfl) (fun c12 => ?_) (fun c12 => ?_)
    · have c12' := c12
      (try simp only [icmp, Bool.and_eq_true, Bool.or_eq_true, Bool.and_eq_false_iff, Bool.or_eq_false_iff, Bool.not_eq_true', Bool.not_eq_false', decide_eq_true_eq, decide_eq_false_iff_not, beq_iff_eq, bne_iff_ne, beq_eq_false_iff_ne, bne_eq_false_iff_eq] at c12')
      refine wp_skip (hK11 _ _ ?_)
      refine wp_seq_k fun K13 hK13 => ?_
      refine wp_block ?_
      refine wp_seq_k fun K14 hK14 => ?_
      refine wp_region_lit ?_
      obtain ⟨el1, hel1⟩ : ∃ e, L_xss[k]? = some e := ⟨_, List.getElem?_eq_getElem (by omega)⟩
      refine seqd rfl rfl (does_indexSl (R := (RS RI 1)) (i := (k : Int)) (xs := L_xss) (e := el1) Try.underlying23 Try.sizeOf27 (ev rfl) (ev rfl) (Sl.ext hv_xss (RS.mono RI.mono) X9) (by omega) hel1) ?_; rintro _ w6 ⟨b15, o16, _, rfl, hc18, ⟨y19, rfl, h20⟩, rfl⟩
      have hs23 := h20; have hs23l := Sl.len h20; obtain ⟨p21, q22, rfl⟩ := Sl.shape h20
      show wpList _ _ _ _ (fr [_, _, _, _, _, _, _, _, _, _, _, _, _, _, _, _, _, _, _, _, _, _, _, _, _, _, _, _, _, _, _, _, _, _, _, _]) _
      refine q_is rfl rfl (does_load (u := (.slice p21 el1.length q22)) (ev rfl) Try.isAgg27 (Cells.at hc18 0 rfl)) (by dsimp only [List.set]; try rfl) ?_
      refine q_is rfl rfl (does_assign (u := (.slice p21 el1.length q22)) (ev rfl)) (by dsimp only [List.set]; try rfl) ?_
      refine wpList_nil (hK14 _ _ ?_)
      refine wp_seq_k fun K24 hK24 => ?_
      refine wp_region_lit ?_
      have hmo2 := liSum_mono L_xss (j := k + 1) (k := L_xss.length) (by omega)
      have hss := liSum_succ hel1
      refine q_is rfl rfl (does_move (u := (Iv ((liSum L_xss k : Nat) : Int))) (ev rfl)) (by dsimp only [List.set]; try rfl) ?_
      refine q_is rfl rfl (does_move (u := (.slice p21 el1.length q22)) (ev rfl)) (by dsimp only [List.set]; try rfl) ?_
      refine q_is rfl rfl (does_len_slice Try.underlying27 (ev rfl)) (by dsimp only [List.set]; try rfl) ?_
      refine q_is rfl rfl (does_iarith (p := ((liSum L_xss k : Nat) : Int)) (q := (el1.length : Int)) (r := ((liSum L_xss k : Nat) : Int) + (el1.length : Int)) (ev rfl) (ev rfl) (.inl ⟨rfl, (in_i64 (by omega) (by omega)).symm⟩)) (by dsimp only [List.set]; try rfl) ?_
      refine q_is rfl rfl (does_assign (u := (Iv (((liSum L_xss k : Nat) : Int) + (el1.length : Int)))) (ev rfl)) (by dsimp only [List.set]; try rfl) ?_
      refine wpList_nil (hK24 _ _ ?_)
      refine wp_seq_k fun K25 hK25 => ?_
      refine wp_region_lit ?_
      refine q_is rfl rfl (does_move (u := (Iv (((liSum L_xss k : Nat) : Int) + (el1.length : Int)))) (ev rfl)) (by dsimp only [List.set]; try rfl) ?_
      refine q_is rfl rfl (does_icmp (p := ((liSum L_xss k : Nat) : Int) + (el1.length : Int)) (q := 0) (.inr (.inr (.inl rfl))) (ev rfl) (ev rfl)) (by dsimp only [List.set]; try rfl) ?_
      refine wpList_nil (hK25 _ _ ?_)
      refine wp_cond_split (t := icmp .lss (((liSum L_xss k : Nat) : Int) + (el1.length : Int)) 0) (ev rfl) (fun c26 => ?_) (fun c26 => ?_)
      · have c26' := c26
        (try simp only [icmp, Bool.and_eq_true, Bool.or_eq_true, Bool.and_eq_false_iff, Bool.or_eq_false_iff, Bool.not_eq_true', Bool.not_eq_false', decide_eq_true_eq, decide_eq_false_iff_not, beq_iff_eq, bne_iff_ne, beq_eq_false_iff_ne, bne_eq_false_iff_eq] at c26')
        exfalso; simp only [icmp, decide_eq_true_eq] at c26; omega
      have c26' := c26
      (try simp only [icmp, Bool.and_eq_true, Bool.or_eq_true, Bool.and_eq_false_iff, Bool.or_eq_false_iff, Bool.not_eq_true', Bool.not_eq_false', decide_eq_true_eq, decide_eq_false_iff_not, beq_iff_eq, bne_iff_ne, beq_eq_false_iff_ne, bne_eq_false_iff_eq] at c26')
      refine wp_skip (hK13 _ _ ?_)
      refine wp_region_lit ?_
      refine q_is rfl rfl (does_iarith (p := (k : Int)) (q := 1) (r := (k : Int) + 1) (ev rfl) (ev rfl) (.inl ⟨rfl, (in_i64 (by omega) (by omega)).symm⟩)) (by dsimp only [List.set]; try rfl) ?_
      refine q_is rfl rfl (does_move (u := (Iv ((k : Int) + 1))) (ev rfl)) (by dsimp only [List.set]; try rfl) ?_
      refine wpList_nil ?_
      refine ⟨k + 1, ⟨fun t => (([(.slice p_xss L_xss.length q_xss), Ud, (.slice none 0 0), (Iv (((liSum L_xss k : Nat) : Int) + (el1.length : Int))), Ud, (.slice p21 el1.length q22), Ud, Ud, Ud, (.slice p_xss L_xss.length q_xss), (Iv (L_xss.length : Int)), (Iv ((k : Int) + 1)), (Bo (icmp .lss (k : Int) (L_xss.length : Int))), (Pt b15 o16), (.slice p21 el1.length q22), (Iv ((liSum L_xss k : Nat) : Int)), (.slice p21 el1.length q22), (Iv (el1.length : Int)), (Iv (((liSum L_xss k : Nat) : Int) + (el1.length : Int))), (Iv (((liSum L_xss k : Nat) : Int) + (el1.length : Int))), (Bo (icmp .lss (((liSum L_xss k : Nat) : Int) + (el1.length : Int)) 0)), (u5 21), (Iv ((k : Int) + 1)), Ud, Ud, Ud, Ud, Ud, Ud, Ud, Ud, Ud, Ud, Ud, Ud, Ud] : List Value)[t]?).getD undef, ?_, E7, ?_⟩, ?_⟩
      · rw [liSum_succ hel1]; simp only [Int.natCast_add, Int.natCast_one]; rfl
      · omega
      · omega
    have c12' := c12
    (try simp only [icmp, Bool.and_eq_true, Bool.or_eq_true, Bool.and_eq_false_iff, Bool.or_eq_false_iff, Bool.not_eq_true', Bool.not_eq_false', decide_eq_true_eq, decide_eq_false_iff_not, beq_iff_eq, bne_iff_ne, beq_eq_false_iff_ne, bne_eq_false_iff_eq] at c12')
    refine wp_exit ?_
    refine hK3 _ _ ?_
    refine wp_seq_k fun K27 hK27 => ?_
    refine wp_region_lit ?_
    refine q_is rfl rfl (does_move (u := (Iv ((liSum L_xss k : Nat) : Int))) (ev rfl)) (by dsimp only [List.set]; try rfl) ?_
    refine seqd rfl rfl (does_call (args := #[(.slice none 0 0), (Iv ((liSum L_xss k : Nat) : Int))]) cal58 (evs rfl) (c_slices_Grow_int64_int64 ((liSum L_xss k : Nat) : Int) _ (by omega))) ?_; rintro _ w29 ⟨E28, ⟨y30, bo31, rfl, hb32, hO33⟩⟩
    have X34 := Ext.gr X9 E28
    obtain ⟨p35, q36, rfl⟩ := Own.shape hO33
    have g37 : w.heap.size ≤ bo31 := Nat.le_trans (Below.size E7) hb32
    have hH38 : Hang w6.heap.size w29 (fun u => Sl RI 1 u (.slice p35 (([] : List Int).length) q36) ([])) := Own.hang hO33 RI.flat (by decide) hb32 (Below.size E28)
    show wpList _ _ _ _ (fr [_, _, _, _, _, _, _, _, _, _, _, _, _, _, _, _, _, _, _, _, _, _, _, _, _, _, _, _, _, _, _, _, _, _, _, _]) _
    refine q_is rfl rfl (does_assign (u := (.slice p35 (([] : List Int).length) q36)) (ev rfl)) (by dsimp only [List.set]; try rfl) ?_
    refine wpList_nil (hK27 _ _ ?_)
    refine wp_seq_k fun K39 hK39 => ?_
    refine wp_seq_k fun K40 hK40 => ?_
    refine wp_region_lit ?_
    refine q_is rfl rfl (does_move (u := (.slice p_xss L_xss.length q_xss)) (ev rfl)) (by dsimp only [List.set]; try rfl) ?_
    refine q_is rfl rfl (does_len_slice Try.underlying23 (ev rfl)) (by dsimp only [List.set]; try rfl) ?_
    refine q_is rfl rfl (does_move (u := (Iv 0)) (ev rfl)) (by dsimp only [List.set]; try rfl) ?_
    refine wpList_nil (hK40 _ _ ?_)
    refine wp_block ?_
    obtain ⟨gg42, hg43, hg44, hO45⟩ := Own.start' hO33 hO33
    have hN46 : w6.heap.size ≤ gg42 := by rcases hg43 with h | h; exact h ▸ hb32; exact Nat.le_trans (Below.size E28) h
    have g47 : w.heap.size ≤ gg42 := Nat.le_trans (Below.size E7) hN46
    refine loop_ghost (σ := Nat) (fun q a w' => ∃ u41 : Nat → Value, ∃ y6 : Value, a = fr [(.slice p_xss L_xss.length q_xss), Ud, (.slice none 0 0), (Iv ((liSum L_xss k : Nat) : Int)), Ud, (u5 5), y6, Ud, (u41 8), (.slice p_xss L_xss.length q_xss), (Iv (L_xss.length : Int)), (Iv (k : Int)), (Bo (icmp .lss (k : Int) (L_xss.length : Int))), (u5 13), (u5 14), (u5 15), (u5 16), (u5 17), (u5 18), (u5 19), (u5 20), (u5 21), (u5 22), (Iv ((liSum L_xss k : Nat) : Int)), (.slice p35 (([] : List Int).length) q36), (.slice p_xss L_xss.length q_xss), (Iv (L_xss.length : Int)), (Iv (q : Int)), (u41 28), (u41 29), (u41 30), (u41 31), (u41 32), (u41 33), (u41 34), Ud] ∧ KpL [gg42] w29 w' ∧ Own RI 1 2 gg42 w29.heap.size w' y6 ((L_xss.take q).flatten) ∧ (q ≤ L_xss.length)) (fun q => L_xss.length - q) 0 ?_ ?_
    · refine ⟨fun t => (([(.slice p_xss L_xss.length q_xss), Ud, (.slice none 0 0), (Iv ((liSum L_xss k : Nat) : Int)), Ud, (u5 5), (.slice p35 (([] : List Int).length) q36), Ud, Ud, (.slice p_xss L_xss.length q_xss), (Iv (L_xss.length : Int)), (Iv (k : Int)), (Bo (icmp .lss (k : Int) (L_xss.length : Int))), (u5 13), (u5 14), (u5 15), (u5 16), (u5 17), (u5 18), (u5 19), (u5 20), (u5 21), (u5 22), (Iv ((liSum L_xss k : Nat) : Int)), (.slice p35 (([] : List Int).length) q36), (.slice p_xss L_xss.length q_xss), (Iv (L_xss.length : Int)), (Iv 0), Ud, Ud, Ud, Ud, Ud, Ud, Ud, Ud] : List Value)[t]?).getD undef, (.slice p35 (([] : List Int).length) q36), rfl, KpL.refl _ _, (Own.cast hO45 (by rfl)), ?_⟩
      exact Nat.zero_le _
    · rintro q a w48 ⟨u41, y6, rfl, E49, hO51, hq⟩
      have X52 := Below.kl X34 E49 (allS g47 all0) (Nat.le_refl _)
      obtain ⟨p53, q54, rfl⟩ := Own.shape hO51
      have hH55 : Hang w6.heap.size w48 (fun u => Sl RI 1 u (.slice p53 (((L_xss.take q).flatten).length) q54) ((L_xss.take q).flatten)) := Own.hang hO51 RI.flat (by decide) hN46 (Below.size E28)
      refine wp_seq_k fun K56 hK56 => ?_
      refine wp_region_lit ?_
      refine q_is rfl rfl (does_icmp (p := (q : Int)) (q := (L_xss.length : Int)) (.inr (.inr (.inl rfl))) (ev rfl) (ev rfl)) (by dsimp only [List.set]; try rfl) ?_
      refine wpList_nil (hK56 _ _ ?_)
      refine wp_seq_k fun K57 hK57 => ?_
      refine wp_cond_split (t := icmp .lss (q : Int) (L_xss.length : Int)) (ev rfl) (fun c58 => ?_) (fun c58 => ?_)
      · have c58' := c58
        (try simp only [icmp, Bool.and_eq_true, Bool.or_eq_true, Bool.and_eq_false_iff, Bool.or_eq_false_iff, Bool.not_eq_true', Bool.not_eq_false', decide_eq_true_eq, decide_eq_false_iff_not, beq_iff_eq, bne_iff_ne, beq_eq_false_iff_ne, bne_eq_false_iff_eq] at c58')
        refine wp_skip (hK57 _ _ ?_)
        refine wp_seq_k fun K59 hK59 => ?_
        refine wp_block ?_
        refine wp_seq_k fun K60 hK60 => ?_
        refine wp_region_lit ?_
        obtain ⟨el2, hel2⟩ : ∃ e, L_xss[q]? = some e := ⟨_, List.getElem?_eq_getElem (by omega)⟩
        refine seqd rfl rfl (does_indexSl (R := (RS RI 1)) (i := (q : Int)) (xs := L_xss) (e := el2) Try.underlying23 Try.sizeOf27 (ev rfl) (ev rfl) (Sl.ext hv_xss (RS.mono RI.mono) X52) (by omega) hel2) ?_; rintro _ w48 ⟨b61, o62, _, rfl, hc64, ⟨y65, rfl, h66⟩, rfl⟩
        have hs69 := h66; have hs69l := Sl.len h66; obtain ⟨p67, q68, rfl⟩ := Sl.shape h66
        show wpList _ _ _ _ (fr [_, _, _, _, _, _, _, _, _, _, _, _, _, _, _, _, _, _, _, _, _, _, _, _, _, _, _, _, _, _, _, _, _, _, _, _]) _
        refine q_is rfl rfl (does_load (u := (.slice p67 el2.length q68)) (ev rfl) Try.isAgg27 (Cells.at hc64 0 rfl)) (by dsimp only [List.set]; try rfl) ?_
        refine q_is rfl rfl (does_assign (u := (.slice p67 el2.length q68)) (ev rfl)) (by dsimp only [List.set]; try rfl) ?_
        refine wpList_nil (hK60 _ _ ?_)
        refine wp_region_lit ?_
        refine q_is rfl rfl (does_move (u := (.slice p53 (((L_xss.take q).flatten).length) q54)) (ev rfl)) (by dsimp only [List.set]; try rfl) ?_
        refine q_is rfl rfl (does_move (u := (.slice p67 el2.length q68)) (ev rfl)) (by dsimp only [List.set]; try rfl) ?_
        refine seqd rfl rfl (does_appendS' (R := RI) (k := 1) (g0 := gg42) (B := w29.heap.size) (xs := ((L_xss.take q).flatten)) (ys := el2) Try.underlying27 inf2 rfl (by decide) oneRI (ev rfl) (ev rfl) hO51 RI.flat hs69 (by first | (simp only [List.length_nil]; omega) | omega | (have hfl := flat_sum (xs := L_xss) q (by omega); have hmo := liSum_mono L_xss (j := q + 1) (k := L_xss.length) (by omega); have hss := liSum_succ hel2; omega)) (KpL.size E49)) ?_; rintro y' w70 ⟨gg71, hg72, K73, hO74⟩
        have hN75 : w6.heap.size ≤ gg71 := by rcases hg72 with h | h; exact h ▸ hN46; exact Nat.le_trans (Below.size E28) h
        have g76 : w.heap.size ≤ gg71 := Nat.le_trans (Below.size E7) hN75
        have X77 := Below.kl X52 K73 (allS g76 all0) (Nat.le_refl _)
        obtain ⟨p78, q79, rfl⟩ := Own.shape hO74
        have hH80 : Hang w6.heap.size w70 (fun u => Sl RI 1 u (.slice p78 ((((L_xss.take q).flatten) ++ el2).length) q79) (((L_xss.take q).flatten) ++ el2)) := Own.hang hO74 RI.flat (by decide) hN46 (Below.size E28)
        show wpList _ _ _ _ (fr [_, _, _, _, _, _, _, _, _, _, _, _, _, _, _, _, _, _, _, _, _, _, _, _, _, _, _, _, _, _, _, _, _, _, _, _]) _
        refine q_is rfl rfl (does_assign (u := (.slice p78 ((((L_xss.take q).flatten) ++ el2).length) q79)) (ev rfl)) (by dsimp only [List.set]; try rfl) ?_
        refine wpList_nil (hK59 _ _ ?_)
        refine wp_region_lit ?_
        refine q_is rfl rfl (does_iarith (p := (q : Int)) (q := 1) (r := (q : Int) + 1) (ev rfl) (ev rfl) (.inl ⟨rfl, (in_i64 (by omega) (by omega)).symm⟩)) (by dsimp only [List.set]; try rfl) ?_
        refine q_is rfl rfl (does_move (u := (Iv ((q : Int) + 1))) (ev rfl)) (by dsimp only [List.set]; try rfl) ?_
        refine wpList_nil ?_
        have hO81 := Own.cast (ys := ((fun (q : Nat) => (L_xss.take q).flatten) (q + 1))) hO74 (by (try dsimp only); exact flat_take hel2)
        refine ⟨q + 1, ⟨fun t => (([(.slice p_xss L_xss.length q_xss), Ud, (.slice none 0 0), (Iv ((liSum L_xss k : Nat) : Int)), Ud, (u5 5), (.slice p78 ((((L_xss.take q).flatten) ++ el2).length) q79), Ud, (.slice p67 el2.length q68), (.slice p_xss L_xss.length q_xss), (Iv (L_xss.length : Int)), (Iv (k : Int)), (Bo (icmp .lss (k : Int) (L_xss.length : Int))), (u5 13), (u5 14), (u5 15), (u5 16), (u5 17), (u5 18), (u5 19), (u5 20), (u5 21), (u5 22), (Iv ((liSum L_xss k : Nat) : Int)), (.slice p35 (([] : List Int).length) q36), (.slice p_xss L_xss.length q_xss), (Iv (L_xss.length : Int)), (Iv ((q : Int) + 1)), (Bo (icmp .lss (q : Int) (L_xss.length : Int))), (Pt b61 o62), (.slice p67 el2.length q68), (.slice p53 (((L_xss.take q).flatten).length) q54), (.slice p67 el2.length q68), (.slice p78 ((((L_xss.take q).flatten) ++ el2).length) q79), (Iv ((q : Int) + 1)), Ud] : List Value)[t]?).getD undef, (.slice p78 ((((L_xss.take q).flatten) ++ el2).length) q79), ?_, (KpL.more E49 K73 (allS (hg72.imp (fun h => by simp [h]) id) all0)), hO81, ?_⟩, ?_⟩
        · first | rfl | (simp only [Int.natCast_add, Int.natCast_one]; rfl)
        · (try dsimp only); omega
        · (try dsimp only); omega
      have c58' := c58
      (try simp only [icmp, Bool.and_eq_true, Bool.or_eq_true, Bool.and_eq_false_iff, Bool.or_eq_false_iff, Bool.not_eq_true', Bool.not_eq_false', decide_eq_true_eq, decide_eq_false_iff_not, beq_iff_eq, bne_iff_ne, beq_eq_false_iff_ne, bne_eq_false_iff_eq] at c58')
      refine wp_exit ?_
      refine hK39 _ _ ?_
      refine wp_seq_k fun K82 hK82 => ?_
      refine wp_region_lit ?_
      refine q_is rfl rfl (does_move (u := (.slice p53 (((L_xss.take q).flatten).length) q54)) (ev rfl)) (by dsimp only [List.set]; try rfl) ?_
      refine q_is rfl rfl (does_assign (u := (.slice p53 (((L_xss.take q).flatten).length) q54)) (ev rfl)) (by dsimp only [List.set]; try rfl) ?_
      refine wpList_nil (hK82 _ _ ?_)
      refine wp_ret ?_
      refine ret_val (v := (.slice p53 (((L_xss.take q).flatten).length) q54)) (res_T rfl (slot rfl)) X52 ?_
      obtain ⟨Lw83, hw84⟩ : ∃ L, WL 1 w.heap.size w48 L (.slice p53 (((L_xss.take q).flatten).length) q54) ((L_xss.take q).flatten).length := Own.wl hO51 (Nat.le_trans (Below.size E7) hN46) (Nat.le_trans (Below.size E7) (Below.size E28))
      have x85 : ((L_xss.take q).flatten) = L_xss.flatten := by first | rfl | (rw [List.take_of_length_le (by omega)])
      have x86 : ((L_xss.take q).flatten) = L_xss.flatten := by first | rfl | (rw [List.take_of_length_le (by omega)])
      exact ⟨(.slice p53 (((L_xss.take q).flatten).length) q54), Lw83, rfl, (Hang.castL (Own.hang hO51 RI.flat (by decide) (Nat.le_trans (Below.size E7) hN46) (Nat.le_trans (Below.size E7) (Below.size E28))) x85), (WL.cast hw84 (congrArg List.length x86))⟩

/- (*impl.Mesh).used -/
theorem c_impl_Mesh_used (m_b : Nat) (m_o : Nat) (m : List Value) (A_m : MeshT) (w : World) (hc_m : Cells w m_b m_o m) (hv_m : RMeshT w A_m m) (hmt : meshOk A_m = true) : Gives Try.prog 30 #[(Pt m_b m_o)] w (fun v w' => ∃ y_1 : Value, ∃ Lw_2 : List Nat, v = y_1 ∧ Hang w.heap.size w' (fun u => Sl RI 1 u y_1 (usedL A_m)) ∧ WL 1 w.heap.size w' Lw_2 y_1 (usedL A_m).length) := by
  obtain ⟨y1, y3, rfl, h2, h4⟩ := hv_m
  have hs7 := h2; have hs7l := Sl.len h2; obtain ⟨p5, q6, rfl⟩ := Sl.shape h2
  have hs10 := h4; have hs10l := Sl.len h4; obtain ⟨p8, q9, rfl⟩ := Sl.shape h4
  have hml := mesh_len hmt
  have hfl := flat_len (xs := A_m.tris) (fun t ht => (mesh_tri hmt (List.getElem?_of_mem ht).choose_spec).1)
  have hfs := flat_sum (xs := A_m.tris) A_m.tris.length (Nat.le_refl _)
  rw [List.take_of_length_le (Nat.le_refl _)] at hfs
  refine enter [(Pt m_b m_o), Ud, Ud, Ud, Ud, Ud, Ud, Ud, Ud, Ud, Ud, Ud, Ud] Try.func30 rfl Try.ntmps30 rfl ?_
  refine wp_seq_k fun K11 hK11 => ?_
  refine wp_region_lit ?_
  refine q_is (l' := [(Pt m_b m_o), Ud, (.slice none 0 0), Ud, Ud, Ud, Ud, Ud, Ud, Ud, Ud, Ud, Ud]) rfl rfl (does_assign (u := (.slice none 0 0)) (ev rfl)) rfl ?_
  refine wpList_nil (hK11 _ _ ?_)
  refine wp_seq_k fun K12 hK12 => ?_
  refine wp_region_lit ?_
  refine q_is (l' := [(Pt m_b m_o), Ud, (.slice none 0 0), Ud, (Pt m_b m_o), Ud, Ud, Ud, Ud, Ud, Ud, Ud, Ud]) rfl rfl (does_move (u := (Pt m_b m_o)) (ev rfl)) rfl ?_
  refine q_is (l' := [(Pt m_b m_o), Ud, (.slice none 0 0), Ud, (Pt m_b m_o), (Pt m_b m_o), Ud, Ud, Ud, Ud, Ud, Ud, Ud]) rfl rfl (does_nilCheck (ev rfl)) rfl ?_
  refine q_is (l' := [(Pt m_b m_o), Ud, (.slice none 0 0), Ud, (Pt m_b m_o), (Pt m_b m_o), (Pt m_b (m_o + 1)), Ud, Ud, Ud, Ud, Ud, Ud]) rfl rfl (does_fieldAddr (ev rfl) fa32_1) rfl ?_
  refine q_is (l' := [(Pt m_b m_o), Ud, (.slice none 0 0), Ud, (Pt m_b m_o), (Pt m_b m_o), (Pt m_b (m_o + 1)), (.slice p8 A_m.tris.length q9), Ud, Ud, Ud, Ud, Ud]) rfl rfl (does_load (u := (.slice p8 A_m.tris.length q9)) (ev rfl) Try.isAgg23 (Cells.at hc_m 1 rfl)) rfl ?_
  refine seqd rfl rfl (does_call (args := #[(.slice p8 A_m.tris.length q9)]) cal49 (evs rfl) (c_slices_Concat_int64_int64 (.slice p8 A_m.tris.length q9) A_m.tris _ hs10 (by omega))) ?_; rintro _ w14 ⟨E13, ⟨y16, Lw17, rfl, hh15, hw18⟩⟩
  have X19 := Ext.gr (Ext.refl w) E13
  obtain ⟨p20, q21, rfl⟩ := Sl.shape hh15.get
  have hw22 : WL 1 w.heap.size w14 Lw17 (.slice p20 A_m.tris.flatten.length q21) A_m.tris.flatten.length := hw18
  show wpList _ _ _ _ (fr [(Pt m_b m_o), Ud, (.slice none 0 0), Ud, (Pt m_b m_o), (Pt m_b m_o), (Pt m_b (m_o + 1)), (.slice p8 A_m.tris.length q9), (.slice p20 A_m.tris.flatten.length q21), Ud, Ud, Ud, Ud]) _
  refine q_is (l' := [(Pt m_b m_o), Ud, (.slice none 0 0), (.slice p20 A_m.tris.flatten.length q21), (Pt m_b m_o), (Pt m_b m_o), (Pt m_b (m_o + 1)), (.slice p8 A_m.tris.length q9), (.slice p20 A_m.tris.flatten.length q21), Ud, Ud, Ud, Ud]) rfl rfl (does_assign (u := (.slice p20 A_m.tris.flatten.length q21)) (ev rfl)) rfl ?_
  refine wpList_nil (hK12 _ _ ?_)
  refine wp_seq_k fun K23 hK23 => ?_
  refine wp_region_lit ?_
  refine q_is (l' := [(Pt m_b m_o), Ud, (.slice none 0 0), (.slice p20 A_m.tris.flatten.length q21), (Pt m_b m_o), (Pt m_b m_o), (Pt m_b (m_o + 1)), (.slice p8 A_m.tris.length q9), (.slice p20 A_m.tris.flatten.length q21), (.slice p20 A_m.tris.flatten.length q21), Ud, Ud, Ud]) rfl rfl (does_move (u := (.slice p20 A_m.tris.flatten.length q21)) (ev rfl)) rfl ?_
  refine seqd rfl rfl (does_callK (args := #[(.slice p20 A_m.tris.flatten.length q21)]) cal50 (evs rfl) (c_slices_Sort_int64 (.slice p20 A_m.tris.flatten.length q21) A_m.tris.flatten Lw17 w.heap.size _ hw22 hh15.get (by (first | omega | (simp only [sortI_len]; omega))))) ?_; rintro _ w24 ⟨K25, rfl, hM26⟩
  obtain ⟨hw27, hh28⟩ := hM26
  have X29 := Below.kl X19 K25 (fun c hc => Nat.le_trans (Below.size (Ext.refl _)) (hw22.1 c hc).1) (Nat.le_refl _)
  show wpList _ _ _ _ (fr [(Pt m_b m_o), Ud, (.slice none 0 0), (.slice p20 A_m.tris.flatten.length q21), (Pt m_b m_o), (Pt m_b m_o), (Pt m_b (m_o + 1)), (.slice p8 A_m.tris.length q9), (.slice p20 A_m.tris.flatten.length q21), (.slice p20 A_m.tris.flatten.length q21), (.tuple #[]), Ud, Ud]) _
  refine wpList_nil (hK23 _ _ ?_)
  refine wp_seq_k fun K30 hK30 => ?_
  refine wp_region_lit ?_
  refine q_is (l' := [(Pt m_b m_o), Ud, (.slice none 0 0), (.slice p20 A_m.tris.flatten.length q21), (Pt m_b m_o), (Pt m_b m_o), (Pt m_b (m_o + 1)), (.slice p8 A_m.tris.length q9), (.slice p20 A_m.tris.flatten.length q21), (.slice p20 A_m.tris.flatten.length q21), (.tuple #[]), (.slice p20 A_m.tris.flatten.length q21), Ud]) rfl rfl (does_move (u := (.slice p20 A_m.tris.flatten.length q21)) (ev rfl)) rfl ?_
  refine seqd rfl rfl (does_callK (args := #[(.slice p20 A_m.tris.flatten.length q21)]) cal51 (evs rfl) (c_slices_Compact_int64 (.slice p20 A_m.tris.flatten.length q21) (sortI A_m.tris.flatten) Lw17 w.heap.size _ (WL.cast hw27 (sortI_len _).symm) hh28.get (by (first | omega | (simp only [sortI_len]; omega))))) ?_; rintro v34 w31 ⟨K32, hM33⟩
  obtain ⟨hw35, hh36⟩ := hM33
  have X39 := Below.kl X29 K32 (fun c hc => Nat.le_trans (Below.size (Ext.refl _)) (hw27.1 c hc).1) (Nat.le_refl _)
  obtain ⟨p37, q38, rfl⟩ := Sl.shape hh36.get
  show wpList _ _ _ _ (fr [(Pt m_b m_o), Ud, (.slice none 0 0), (.slice p20 A_m.tris.flatten.length q21), (Pt m_b m_o), (Pt m_b m_o), (Pt m_b (m_o + 1)), (.slice p8 A_m.tris.length q9), (.slice p20 A_m.tris.flatten.length q21), (.slice p20 A_m.tris.flatten.length q21), (.tuple #[]), (.slice p20 A_m.tris.flatten.length q21), (.slice p37 ((compI (sortI A_m.tris.flatten)).length) q38)]) _
  refine q_is (l' := [(Pt m_b m_o), Ud, (.slice p37 ((compI (sortI A_m.tris.flatten)).length) q38), (.slice p20 A_m.tris.flatten.length q21), (Pt m_b m_o), (Pt m_b m_o), (Pt m_b (m_o + 1)), (.slice p8 A_m.tris.length q9), (.slice p20 A_m.tris.flatten.length q21), (.slice p20 A_m.tris.flatten.length q21), (.tuple #[]), (.slice p20 A_m.tris.flatten.length q21), (.slice p37 ((compI (sortI A_m.tris.flatten)).length) q38)]) rfl rfl (does_assign (u := (.slice p37 ((compI (sortI A_m.tris.flatten)).length) q38)) (ev rfl)) rfl ?_
  refine wpList_nil (hK30 _ _ ?_)
  refine wp_ret ?_
  refine ret_val (v := (.slice p37 ((compI (sortI A_m.tris.flatten)).length) q38)) (res_T rfl (slot rfl)) X39 ?_
  have x40 : (compI (sortI A_m.tris.flatten)) = (usedL A_m) := by exact used_alike hmt
  have x41 : (compI (sortI A_m.tris.flatten)) = (usedL A_m) := by exact used_alike hmt
  exact ⟨(.slice p37 ((compI (sortI A_m.tris.flatten)).length) q38), Lw17, rfl, (Hang.castL (hh36.le (Below.size (Ext.refl _))) x40), (WL.cast (hw35.le (Below.size (Ext.refl _))) (congrArg List.length x41))⟩

/- impl.UsedPlaces -/
theorem c_impl_UsedPlaces (m : List Value) (A_m : MeshT) (w : World) (hv_m : RMeshT w A_m m) : Gives Try.prog 10 #[(.agg m.toArray)] w (fun v w' => ∃ y_1 : Value, ∃ Lw_2 : List Nat, v = (.tuple #[y_1, (Bo (meshOk A_m))]) ∧ Hang w.heap.size w' (fun u => Sl RI 1 u y_1 (usedR A_m)) ∧ WL 1 w.heap.size w' Lw_2 y_1 (usedR A_m).length) := by
  obtain ⟨y1, y3, rfl, h2, h4⟩ := hv_m
  have hs7 := h2; have hs7l := Sl.len h2; obtain ⟨p5, q6, rfl⟩ := Sl.shape h2
  have hs10 := h4; have hs10l := Sl.len h4; obtain ⟨p8, q9, rfl⟩ := Sl.shape h4
  refine enter [(.agg #[(.slice p5 A_m.places.length q6), (.slice p8 A_m.tris.length q9)]), Ud, Ud, Ud, Ud, Ud, Ud, Ud] Try.func10 rfl Try.ntmps10 rfl ?_
  refine wp_seq_k fun K11 hK11 => ?_
  refine wp_region_lit ?_
  refine seqd rfl rfl (does_box (u := (.agg #[(.slice p5 A_m.places.length q6), (.slice p8 A_m.tris.length q9)])) (ev rfl)) ?_; rintro _ w16 ⟨b12, rfl, hb13, hB14, E15⟩
  have g17 : w.heap.size ≤ b12 := Nat.le_trans (Below.size (Ext.refl w)) hb13
  change Blk _ _ [(.slice p5 A_m.places.length q6), (.slice p8 A_m.tris.length q9)] at hB14
  have X18 := Ext.gr (Ext.refl w) E15
  show wpList _ _ _ _ (fr [(.agg #[(.slice p5 A_m.places.length q6), (.slice p8 A_m.tris.length q9)]), (Pt b12 0), Ud, Ud, Ud, Ud, Ud, Ud]) _
  refine q_is (l' := [(.agg #[(.slice p5 A_m.places.length q6), (.slice p8 A_m.tris.length q9)]), (Pt b12 0), (.slice none 0 0), Ud, Ud, Ud, Ud, Ud]) rfl rfl (does_assign (u := (.slice none 0 0)) (ev rfl)) rfl ?_
  refine q_is (l' := [(.agg #[(.slice p5 A_m.places.length q6), (.slice p8 A_m.tris.length q9)]), (Pt b12 0), (.slice none 0 0), (Bo false), Ud, Ud, Ud, Ud]) rfl rfl (does_assign (u := (Bo false)) (ev rfl)) rfl ?_
  refine wpList_nil (hK11 _ _ ?_)
  refine wp_seq_k fun K19 hK19 => ?_
  refine wp_seq_k fun K20 hK20 => ?_
  refine wp_region_lit ?_
  refine q_is (l' := [(.agg #[(.slice p5 A_m.places.length q6), (.slice p8 A_m.tris.length q9)]), (Pt b12 0), (.slice none 0 0), (Bo false), (.agg #[(.slice p5 A_m.places.length q6), (.slice p8 A_m.tris.length q9)]), Ud, Ud, Ud]) rfl rfl (does_loadAgg (cs := [(.slice p5 A_m.places.length q6), (.slice p8 A_m.tris.length q9)]) (ev rfl) Try.isAgg32 Try.sizeOf32 (Blk.cells hB14) rfl) rfl ?_
  refine seqd rfl rfl (does_call (args := #[(.agg #[(.slice p5 A_m.places.length q6), (.slice p8 A_m.tris.length q9)])]) cal29 (evs rfl) (c_impl_ValidMesh [(.slice p5 A_m.places.length q6), (.slice p8 A_m.tris.length q9)] A_m _ ⟨(.slice p5 A_m.places.length q6), (.slice p8 A_m.tris.length q9), rfl, (Sl.ext hs7 RV3.mono X18), (Sl.ext hs10 (RS.mono RI.mono) X18)⟩)) ?_; rintro _ w22 ⟨E21, rfl⟩
  have X23 := Ext.gr X18 E21
  show wpList _ _ _ _ (fr [(.agg #[(.slice p5 A_m.places.length q6), (.slice p8 A_m.tris.length q9)]), (Pt b12 0), (.slice none 0 0), (Bo false), (.agg #[(.slice p5 A_m.places.length q6), (.slice p8 A_m.tris.length q9)]), (Bo (meshOk A_m)), Ud, Ud]) _
  refine q_is (l' := [(.agg #[(.slice p5 A_m.places.length q6), (.slice p8 A_m.tris.length q9)]), (Pt b12 0), (.slice none 0 0), (Bo false), (.agg #[(.slice p5 A_m.places.length q6), (.slice p8 A_m.tris.length q9)]), (Bo (meshOk A_m)), (Bo (!(meshOk A_m))), Ud]) rfl rfl (does_not (ev rfl)) rfl ?_
  refine wpList_nil (hK20 _ _ ?_)
  refine wp_cond_split (t := !(meshOk A_m)) (ev rfl) (fun c24 => ?_) (fun c24 => ?_)
  · rw [Bool.not_eq_true'] at c24
    have c24' := c24
    have hmf : meshOk A_m = false := c24
    refine wp_seq_k fun K25 hK25 => ?_
    refine wp_region_lit ?_
    refine q_is (l' := [(.agg #[(.slice p5 A_m.places.length q6), (.slice p8 A_m.tris.length q9)]), (Pt b12 0), (.slice none 0 0), (Bo false), (.agg #[(.slice p5 A_m.places.length q6), (.slice p8 A_m.tris.length q9)]), (Bo (meshOk A_m)), (Bo (!(meshOk A_m))), Ud]) rfl rfl (does_assign (u := (.slice none 0 0)) (ev rfl)) rfl ?_
    refine q_is (l' := [(.agg #[(.slice p5 A_m.places.length q6), (.slice p8 A_m.tris.length q9)]), (Pt b12 0), (.slice none 0 0), (Bo false), (.agg #[(.slice p5 A_m.places.length q6), (.slice p8 A_m.tris.length q9)]), (Bo (meshOk A_m)), (Bo (!(meshOk A_m))), Ud]) rfl rfl (does_assign (u := (Bo false)) (ev rfl)) rfl ?_
    refine wpList_nil (hK25 _ _ ?_)
    refine wp_ret ?_
    dsimp only [Exit.then, Exit.inBlock]
    refine ret_val (v := (.tuple #[(.slice none 0 0), (Bo false)])) (res_TT rfl (slot rfl) (slot rfl)) X23 ?_
    have x26 : (meshOk A_m) = false := by first | exact hmf | exact hmt | (rw [usedR_f hmf] <;> rfl) | (rw [usedR_t hmt] <;> rfl)
    have x27 : ([]) = (usedR A_m) := by first | exact hmf | exact hmt | (rw [usedR_f hmf] <;> rfl) | (rw [usedR_t hmt] <;> rfl)
    have x28 : ([]) = (usedR A_m) := by first | exact hmf | exact hmt | (rw [usedR_f hmf] <;> rfl) | (rw [usedR_t hmt] <;> rfl)
    exact ⟨(.slice none 0 0), [], (by first | with_reducible rfl | rw [x26] | rfl), (Hang.castL (Sl.hang_nil _ _ _ _) x27), (WL.cast (WL.nil _ _ _) (congrArg List.length x28))⟩
  rw [Bool.not_eq_false'] at c24
  have c24' := c24
  have hmt : meshOk A_m = true := c24
  have hml := mesh_len hmt
  refine wp_skip (hK19 _ _ ?_)
  refine wp_seq_k fun K29 hK29 => ?_
  refine wp_region_lit ?_
  refine seqd rfl rfl (does_call (args := #[(Pt b12 0)]) cal30 (evs rfl) (c_impl_Mesh_used b12 0 [(.slice p5 A_m.places.length q6), (.slice p8 A_m.tris.length q9)] A_m _ (Blk.cells (hB14.ext E21)) ⟨(.slice p5 A_m.places.length q6), (.slice p8 A_m.tris.length q9), rfl, (Sl.ext hs7 RV3.mono X23), (Sl.ext hs10 (RS.mono RI.mono) X23)⟩ (by exact hmt))) ?_; rintro _ w31 ⟨E30, ⟨y33, Lw34, rfl, hh32, hw35⟩⟩
  have X36 := Ext.gr X23 E30
  have n37 : b12 < w22.heap.size := Blk.lt (hB14.ext E21)
  obtain ⟨p38, q39, rfl⟩ := Sl.shape hh32.get
  have hw40 : WL 1 w22.heap.size w31 Lw34 (.slice p38 ((usedL A_m).length) q39) (usedL A_m).length := hw35
  show wpList _ _ _ _ (fr [(.agg #[(.slice p5 A_m.places.length q6), (.slice p8 A_m.tris.length q9)]), (Pt b12 0), (.slice none 0 0), (Bo false), (.agg #[(.slice p5 A_m.places.length q6), (.slice p8 A_m.tris.length q9)]), (Bo (meshOk A_m)), (Bo (!(meshOk A_m))), (.slice p38 ((usedL A_m).length) q39)]) _
  refine q_is (l' := [(.agg #[(.slice p5 A_m.places.length q6), (.slice p8 A_m.tris.length q9)]), (Pt b12 0), (.slice p38 ((usedL A_m).length) q39), (Bo false), (.agg #[(.slice p5 A_m.places.length q6), (.slice p8 A_m.tris.length q9)]), (Bo (meshOk A_m)), (Bo (!(meshOk A_m))), (.slice p38 ((usedL A_m).length) q39)]) rfl rfl (does_assign (u := (.slice p38 ((usedL A_m).length) q39)) (ev rfl)) rfl ?_
  refine q_is (l' := [(.agg #[(.slice p5 A_m.places.length q6), (.slice p8 A_m.tris.length q9)]), (Pt b12 0), (.slice p38 ((usedL A_m).length) q39), (Bo true), (.agg #[(.slice p5 A_m.places.length q6), (.slice p8 A_m.tris.length q9)]), (Bo (meshOk A_m)), (Bo (!(meshOk A_m))), (.slice p38 ((usedL A_m).length) q39)]) rfl rfl (does_assign (u := (Bo true)) (ev rfl)) rfl ?_
  refine wpList_nil (hK29 _ _ ?_)
  refine wp_ret ?_
  refine ret_val (v := (.tuple #[(.slice p38 ((usedL A_m).length) q39), (Bo true)])) (res_TT rfl (slot rfl) (slot rfl)) X36 ?_
  have x41 : (meshOk A_m) = true := by first | exact hmf | exact hmt | (rw [usedR_f hmf] <;> rfl) | (rw [usedR_t hmt] <;> rfl)
  have x42 : (usedL A_m) = (usedR A_m) := by first | exact hmf | exact hmt | (rw [usedR_f hmf] <;> rfl) | (rw [usedR_t hmt] <;> rfl)
  have x43 : (usedL A_m) = (usedR A_m) := by first | exact hmf | exact hmt | (rw [usedR_f hmf] <;> rfl) | (rw [usedR_t hmt] <;> rfl)
  exact ⟨(.slice p38 ((usedL A_m).length) q39), Lw34, (by first | with_reducible rfl | rw [x41] | rfl), (Hang.castL (hh32.le (Below.size (Ext.gr (Ext.gr (Ext.refl _) E15) E21))) x42), (WL.cast (hw40.le (Below.size (Ext.gr (Ext.gr (Ext.refl _) E15) E21))) (congrArg List.length x43))⟩

/- laws.eqInt64S -/
theorem c_laws_eqInt64S (a : Value) (L_a : List Int) (b : Value) (L_b : List Int) (w : World) (hv_a : Sl RI 1 w a L_a) (hv_b : Sl RI 1 w b L_b) : Gives Try.prog 11 #[a, b] w (fun v w' => v = (Bo (sameX eqI L_a L_b))) := by
  have hlen_a := Sl.len hv_a; obtain ⟨p_a, q_a, rfl⟩ := Sl.shape hv_a
  have hlen_b := Sl.len hv_b; obtain ⟨p_b, q_b, rfl⟩ := Sl.shape hv_b
  refine enter [(.slice p_a L_a.length q_a), (.slice p_b L_b.length q_b), Ud, Ud, Ud, Ud, Ud, Ud, Ud, Ud, Ud, Ud, Ud, Ud, Ud, Ud, Ud, Ud, Ud, Ud, Ud, Ud, Ud, Ud, Ud, Ud] Try.func11 rfl Try.ntmps11 rfl ?_
  refine wp_seq_k fun K1 hK1 => ?_
  refine wp_region_lit ?_
  refine q_is rfl rfl (does_assign (u := (Bo false)) (ev rfl)) (by dsimp only [List.set]; try rfl) ?_
  refine wpList_nil (hK1 _ _ ?_)
  refine wp_seq_k fun K2 hK2 => ?_
  refine wp_seq_k fun K3 hK3 => ?_
  refine wp_region_lit ?_
  refine q_is rfl rfl (does_move (u := (.slice p_a L_a.length q_a)) (ev rfl)) (by dsimp only [List.set]; try rfl) ?_
  refine q_is rfl rfl (does_len_slice Try.underlying27 (ev rfl)) (by dsimp only [List.set]; try rfl) ?_
  refine q_is rfl rfl (does_move (u := (.slice p_b L_b.length q_b)) (ev rfl)) (by dsimp only [List.set]; try rfl) ?_
  refine q_is rfl rfl (does_len_slice Try.underlying27 (ev rfl)) (by dsimp only [List.set]; try rfl) ?_
  refine q_is rfl rfl (does_icmp (p := (L_a.length : Int)) (q := (L_b.length : Int)) (.inr (.inl rfl)) (ev rfl) (ev rfl)) (by dsimp only [List.set]; try rfl) ?_
  refine wpList_nil (hK3 _ _ ?_)
  refine wp_cond_split (t := icmp .neq (L_a.length : Int) (L_b.length : Int)) (ev rfl) (fun c4 => ?_) (fun c4 => ?_)
  · have c4' := c4
    (try simp only [icmp, Bool.and_eq_true, Bool.or_eq_true, Bool.and_eq_false_iff, Bool.or_eq_false_iff, Bool.not_eq_true', Bool.not_eq_false', decide_eq_true_eq, decide_eq_false_iff_not, beq_iff_eq, bne_iff_ne, beq_eq_false_iff_ne, bne_eq_false_iff_eq] at c4')
    refine wp_seq_k fun K5 hK5 => ?_
    refine wp_region_lit ?_
    refine q_is rfl rfl (does_assign (u := (Bo false)) (ev rfl)) (by dsimp only [List.set]; try rfl) ?_
    refine wpList_nil (hK5 _ _ ?_)
    refine wp_ret ?_
    dsimp only [Exit.then, Exit.inBlock]
    refine ret_val (v := (Bo false)) (res_T rfl (slot rfl)) (Ext.refl w) ?_
    have x6 : (sameX eqI L_a L_b) = false := by first | exact (sameX_len (by omega)) | exact (sameX_not (by omega) (by assumption) (by assumption) (by simp only [eqI, icmp] at *; simp_all)) | exact (sameX_all (by omega) (by omega) hs)
    exact (by first | with_reducible rfl | rw [x6] | rfl)
  have c4' := c4
  (try simp only [icmp, Bool.and_eq_true, Bool.or_eq_true, Bool.and_eq_false_iff, Bool.or_eq_false_iff, Bool.not_eq_true', Bool.not_eq_false', decide_eq_true_eq, decide_eq_false_iff_not, beq_iff_eq, bne_iff_ne, beq_eq_false_iff_ne, bne_eq_false_iff_eq] at c4')
  refine wp_skip (hK2 _ _ ?_)
  refine wp_seq_k fun K7 hK7 => ?_
  refine wp_seq_k fun K8 hK8 => ?_
  refine wp_region_lit ?_
  refine q_is rfl rfl (does_assign (u := (Iv 0)) (ev rfl)) (by dsimp only [List.set]; try rfl) ?_
  refine wpList_nil (hK8 _ _ ?_)
  refine wp_block ?_
  refine loop_ghost (σ := Nat) (fun k a w' => ∃ u9 : Nat → Value, a = fr [(.slice p_a L_a.length q_a), (.slice p_b L_b.length q_b), Ud, Ud, (u9 4), (Iv (k : Int)), (.slice p_a L_a.length q_a), (Iv (L_a.length : Int)), (.slice p_b L_b.length q_b), (Iv (L_b.length : Int)), (Bo (icmp .neq (L_a.length : Int) (L_b.length : Int))), (u9 11), (u9 12), (u9 13), (u9 14), (u9 15), (u9 16), (u9 17), (u9 18), (u9 19), (u9 20), (u9 21), (u9 22), (u9 23), (u9 24), (u9 25)] ∧ Ext w w' ∧ (k ≤ L_a.length ∧ SameXTo eqI L_a L_b k)) (fun k => L_a.length - k) 0 ?_ ?_
  · refine ⟨fun t => (([(.slice p_a L_a.length q_a), (.slice p_b L_b.length q_b), Ud, Ud, (Bo false), (Iv 0), (.slice p_a L_a.length q_a), (Iv (L_a.length : Int)), (.slice p_b L_b.length q_b), (Iv (L_b.length : Int)), (Bo (icmp .neq (L_a.length : Int) (L_b.length : Int))), Ud, Ud, Ud, Ud, Ud, Ud, Ud, Ud, Ud, Ud, Ud, Ud, Ud, Ud, Ud] : List Value)[t]?).getD undef, rfl, Ext.refl _, ?_⟩
    exact ⟨Nat.zero_le _, SameXTo.zero⟩
  · rintro k a w10 ⟨u9, rfl, E11, ⟨hk, hs⟩⟩
    have X13 := Ext.gr (Ext.refl w) E11
    refine wp_seq_k fun K14 hK14 => ?_
    refine wp_seq_k fun K15 hK15 => ?_
    refine wp_region_lit ?_
    refine q_is rfl rfl (does_move (u := (Iv (k : Int))) (ev rfl)) (by dsimp only [List.set]; try rfl) ?_
    refine q_is rfl rfl (does_move (u := (.slice p_a L_a.length q_a)) (ev rfl)) (by dsimp only [List.set]; try rfl) ?_
    refine q_is rfl rfl (does_len_slice Try.underlying27 (ev rfl)) (by dsimp only [List.set]; try rfl) ?_
    refine q_is rfl rfl (does_icmp (p := (k : Int)) (q := (L_a.length : Int)) (.inr (.inr (.inl rfl))) (ev rfl) (ev rfl)) (by dsimp only [List.set]; try rfl) ?_
    refine wpList_nil (hK15 _ _ ?_)
    refine wp_cond_split (t := icmp .lss (k : Int) (L_a.length : Int)) (ev rfl) (fun c16 => ?_) (fun c16 => ?_)
    · have c16' := c16
      (try simp only [icmp, Bool.and_eq_true, Bool.or_eq_true, Bool.and_eq_false_iff, Bool.or_eq_false_iff, Bool.not_eq_true', Bool.not_eq_false', decide_eq_true_eq, decide_eq_false_iff_not, beq_iff_eq, bne_iff_ne, beq_eq_false_iff_ne, bne_eq_false_iff_eq] at c16')
      refine wp_skip (hK14 _ _ ?_)
      refine wp_seq_k fun K17 hK17 => ?_
      refine wp_block ?_
      refine wp_seq_k fun K18 hK18 => ?_
      obtain ⟨el1, hel1⟩ : ∃ e, L_a[k]? = some e := ⟨_, List.getElem?_eq_getElem (by omega)⟩
      obtain ⟨el2, hel2⟩ : ∃ e, L_b[k]? = some e := ⟨_, List.getElem?_eq_getElem (by omega)⟩
      refine region_draw (
        [Fact.pure [] (fun v => v = (.slice p_a L_a.length q_a)),
    Fact.pure [] (fun v => v = (Iv (k : Int))),
    Fact.mem [17, 18] (fun v w' => PtrR RI w' v el1) (by intro v w1 w2 hx h; exact h.ext RI.mono hx),
    Fact.pure [19] (fun v => v = (Iv el1)),
    Fact.pure [] (fun v => v = (.slice p_b L_b.length q_b)),
    Fact.pure [] (fun v => v = (Iv (k : Int))),
    Fact.mem [21, 22] (fun v w' => PtrR RI w' v el2) (by intro v w1 w2 hx h; exact h.ext RI.mono hx),
    Fact.pure [23] (fun v => v = (Iv el2)),
    Fact.pure [20, 24] (fun v => v = (Bo (icmp .neq el1 el2)))]) mixed (by kernel_rfl) (by intro _ _ d _ _ h; cases d <;> exact h) ?_
      obtain ⟨w19, hw21⟩ : ∃ w', w' = World.drew w10 := ⟨_, rfl⟩; rw [← hw21]; have E20 : Ext w10 w19 := by rw [hw21]; exact Ext.draw _
      clear hw21
      have X22 := Ext.gr X13 E20
      refine RW_d _ rfl (fun v => by dsimp only [List.set]; try rfl) (fun u hu hF => ?_) (fun v23 => ?_)
      · clear hF
        refine doesG_un rfl ?_
        refine (does_move (u := (.slice p_a L_a.length q_a)) (ev rfl)).mono ?_; rintro _ _ ⟨rfl, rfl⟩
        exact ⟨rfl, Ext.refl _⟩
      refine RW_d _ rfl (fun v => by dsimp only [List.set]; try rfl) (fun u hu hF => ?_) (fun v24 => ?_)
      · clear hF
        refine doesG_un rfl ?_
        refine (does_move (u := (Iv (k : Int))) (ev rfl)).mono ?_; rintro _ _ ⟨rfl, rfl⟩
        exact ⟨rfl, Ext.refl _⟩
      refine RW_d _ rfl (fun v => by dsimp only [List.set]; try rfl) (fun u hu hF => ?_) (fun v25 => ?_)
      · have h17_ : v23 = (.slice p_a L_a.length q_a) := hF.1
        have h18_ : v24 = (Iv (k : Int)) := hF.2.1
        clear hF
        refine doesG_un rfl ?_
        obtain rfl := h17_
        obtain rfl := h18_
        refine (does_indexSl (R := RI) (i := (k : Int)) (xs := L_a) (e := el1) Try.underlying27 Try.sizeOf2 (ev rfl) (ev rfl) (Sl.ext (Sl.ext hv_a RI.mono (Ext.gr X13 E20)) RI.mono hu) (by omega) hel1).mono ?_; rintro v u' ⟨b, of, cs, hv, hc, hR, hu'⟩; subst hu'
        exact ⟨⟨b, of, cs, hv, hc, hR⟩, Ext.refl _⟩
      refine RW_d _ rfl (fun v => by dsimp only [List.set]; try rfl) (fun u hu hF => ?_) (fun v26 => ?_)
      · have h19_ : PtrR RI u v25 el1 := hF.1
        clear hF
        refine doesG_un rfl ?_
        obtain ⟨b19_, o19_, _, rfl, hc19_, rfl⟩ := h19_
        refine (does_load (u := (Iv el1)) (ev rfl) Try.isAgg2 (Cells.at hc19_ 0 rfl)).mono ?_; rintro _ _ ⟨rfl, rfl⟩
        exact ⟨rfl, Ext.refl _⟩
      refine RW_d _ rfl (fun v => by dsimp only [List.set]; try rfl) (fun u hu hF => ?_) (fun v27 => ?_)
      · clear hF
        refine doesG_un rfl ?_
        refine (does_move (u := (.slice p_b L_b.length q_b)) (ev rfl)).mono ?_; rintro _ _ ⟨rfl, rfl⟩
        exact ⟨rfl, Ext.refl _⟩
      refine RW_d _ rfl (fun v => by dsimp only [List.set]; try rfl) (fun u hu hF => ?_) (fun v28 => ?_)
      · clear hF
        refine doesG_un rfl ?_
        refine (does_move (u := (Iv (k : Int))) (ev rfl)).mono ?_; rintro _ _ ⟨rfl, rfl⟩
        exact ⟨rfl, Ext.refl _⟩
      refine RW_d _ rfl (fun v => by dsimp only [List.set]; try rfl) (fun u hu hF => ?_) (fun v29 => ?_)
      · have h21_ : v27 = (.slice p_b L_b.length q_b) := hF.1
        have h22_ : v28 = (Iv (k : Int)) := hF.2.1
        clear hF
        refine doesG_un rfl ?_
        obtain rfl := h21_
        obtain rfl := h22_
        refine (does_indexSl (R := RI) (i := (k : Int)) (xs := L_b) (e := el2) Try.underlying27 Try.sizeOf2 (ev rfl) (ev rfl) (Sl.ext (Sl.ext hv_b RI.mono (Ext.gr X13 E20)) RI.mono hu) (by omega) hel2).mono ?_; rintro v u' ⟨b, of, cs, hv, hc, hR, hu'⟩; subst hu'
        exact ⟨⟨b, of, cs, hv, hc, hR⟩, Ext.refl _⟩
      refine RW_d _ rfl (fun v => by dsimp only [List.set]; try rfl) (fun u hu hF => ?_) (fun v30 => ?_)
      · have h23_ : PtrR RI u v29 el2 := hF.1
        clear hF
        refine doesG_un rfl ?_
        obtain ⟨b23_, o23_, _, rfl, hc23_, rfl⟩ := h23_
        refine (does_load (u := (Iv el2)) (ev rfl) Try.isAgg2 (Cells.at hc23_ 0 rfl)).mono ?_; rintro _ _ ⟨rfl, rfl⟩
        exact ⟨rfl, Ext.refl _⟩
      refine RW_d _ rfl (fun v => by dsimp only [List.set]; try rfl) (fun u hu hF => ?_) (fun v31 => ?_)
      · have h20_ : v26 = (Iv el1) := hF.1
        have h24_ : v30 = (Iv el2) := hF.2.1
        clear hF
        refine doesG_un rfl ?_
        obtain rfl := h20_
        obtain rfl := h24_
        refine (does_icmp (p := el1) (q := el2) (.inr (.inl rfl)) (ev rfl) (ev rfl)).mono ?_; rintro _ _ ⟨rfl, rfl⟩
        exact ⟨rfl, Ext.refl _⟩
      refine RW_fin ?_; intro w32 E33 hP34
      obtain ⟨⟨⟨⟨⟨⟨⟨⟨⟨-, -⟩, -⟩, -⟩, -⟩, -⟩, -⟩, -⟩, -⟩, q35⟩ := hP34
      have X36 := Ext.gr X22 E33
      have q35 : v31 = (Bo (icmp .neq el1 el2)) := q35
      obtain rfl := q35
      show wpList _ _ _ _ (fr [_, _, _, _, _, _, _, _, _, _, _, _, _, _, _, _, _, _, _, _, _, _, _, _, _, _]) _
      refine wpList_nil (hK18 _ _ ?_)
      refine wp_cond_split (t := icmp .neq el1 el2) (ev rfl) (fun c37 => ?_) (fun c37 => ?_)
      · have c37' := c37
        (try simp only [icmp, Bool.and_eq_true, Bool.or_eq_true, Bool.and_eq_false_iff, Bool.or_eq_false_iff, Bool.not_eq_true', Bool.not_eq_false', decide_eq_true_eq, decide_eq_false_iff_not, beq_iff_eq, bne_iff_ne, beq_eq_false_iff_ne, bne_eq_false_iff_eq] at c37')
        refine wp_seq_k fun K38 hK38 => ?_
        refine wp_region_lit ?_
        refine q_is rfl rfl (does_assign (u := (Bo false)) (ev rfl)) (by dsimp only [List.set]; try rfl) ?_
        refine wpList_nil (hK38 _ _ ?_)
        refine wp_ret ?_
        dsimp only [Exit.then, Exit.inBlock]
        refine ret_val (v := (Bo false)) (res_T rfl (slot rfl)) X36 ?_
        try simp only [hel1, hel2] at c4 c16 c37
        have x39 : (sameX eqI L_a L_b) = false := by first | exact (sameX_len (by omega)) | exact (sameX_not (by omega) (by assumption) (by assumption) (by simp only [eqI, icmp] at *; simp_all)) | exact (sameX_all (by omega) (by omega) hs)
        exact (by first | with_reducible rfl | rw [x39] | rfl)
      have c37' := c37
      (try simp only [icmp, Bool.and_eq_true, Bool.or_eq_true, Bool.and_eq_false_iff, Bool.or_eq_false_iff, Bool.not_eq_true', Bool.not_eq_false', decide_eq_true_eq, decide_eq_false_iff_not, beq_iff_eq, bne_iff_ne, beq_eq_false_iff_ne, bne_eq_false_iff_eq] at c37')
      refine wp_skip (hK17 _ _ ?_)
      refine wp_region_lit ?_
      refine q_is rfl rfl (does_move (u := (Iv (k : Int))) (ev rfl)) (by dsimp only [List.set]; try rfl) ?_
      refine q_is rfl rfl (does_iarith (p := (k : Int)) (q := 1) (r := (k : Int) + 1) (ev rfl) (ev rfl) (.inl ⟨rfl, (in_i64 (by omega) (by omega)).symm⟩)) (by dsimp only [List.set]; try rfl) ?_
      refine q_is rfl rfl (does_assign (u := (Iv ((k : Int) + 1))) (ev rfl)) (by dsimp only [List.set]; try rfl) ?_
      refine wpList_nil ?_
      refine ⟨k + 1, ⟨fun t => (([(.slice p_a L_a.length q_a), (.slice p_b L_b.length q_b), Ud, Ud, (u9 4), (Iv ((k : Int) + 1)), (.slice p_a L_a.length q_a), (Iv (L_a.length : Int)), (.slice p_b L_b.length q_b), (Iv (L_b.length : Int)), (Bo (icmp .neq (L_a.length : Int) (L_b.length : Int))), (Iv (k : Int)), (.slice p_a L_a.length q_a), (Iv (L_a.length : Int)), (Bo (icmp .lss (k : Int) (L_a.length : Int))), (Iv (k : Int)), (Iv ((k : Int) + 1)), v23, v24, v25, v26, v27, v28, v29, v30, (Bo (icmp .neq el1 el2))] : List Value)[t]?).getD undef, ?_, (Ext.gr (Ext.gr E11 E20) E33), ?_⟩, ?_⟩
      · first | rfl | (simp only [Int.natCast_add, Int.natCast_one]; rfl)
      · exact ⟨by omega, SameXTo.step hs (by assumption) (by assumption) (by simp only [eqI, icmp] at *; simp_all)⟩
      · omega
    have c16' := c16
    (try simp only [icmp, Bool.and_eq_true, Bool.or_eq_true, Bool.and_eq_false_iff, Bool.or_eq_false_iff, Bool.not_eq_true', Bool.not_eq_false', decide_eq_true_eq, decide_eq_false_iff_not, beq_iff_eq, bne_iff_ne, beq_eq_false_iff_ne, bne_eq_false_iff_eq] at c16')
    refine wp_exit ?_
    refine hK7 _ _ ?_
    refine wp_seq_k fun K40 hK40 => ?_
    refine wp_region_lit ?_
    refine q_is rfl rfl (does_assign (u := (Bo true)) (ev rfl)) (by dsimp only [List.set]; try rfl) ?_
    refine wpList_nil (hK40 _ _ ?_)
    refine wp_ret ?_
    refine ret_val (v := (Bo true)) (res_T rfl (slot rfl)) X13 ?_
    have x41 : (sameX eqI L_a L_b) = true := by first | exact (sameX_len (by omega)) | exact (sameX_not (by omega) (by assumption) (by assumption) (by simp only [eqI, icmp] at *; simp_all)) | exact (sameX_all (by omega) (by omega) hs)
    exact (by first | with_reducible rfl | rw [x41] | rfl)

/- laws.sameFloat -/
theorem c_laws_sameFloat (x : Nat) (y : Nat) (w : World) : Gives Try.prog 61 #[(Fd x), (Fd y)] w (fun v w' => v = (Bo (sameF (cf .f64 x) (cf .f64 y)))) := by
  refine enter [(Fd x), (Fd y), Ud, Ud, Ud, Ud, Ud, Ud, Ud, Ud, Ud, Ud, Ud, Ud, Ud, Ud, Ud, Ud, Ud, Ud, Ud, Ud, Ud, Ud, Ud, Ud, Ud, Ud, Ud, Ud, Ud, Ud, Ud, Ud, Ud, Ud, Ud] Try.func61 rfl Try.ntmps61 rfl ?_
  refine wp_seq_k fun K1 hK1 => ?_
  refine wp_region_lit ?_
  refine q_is rfl rfl (does_assign (u := (Bo false)) (ev rfl)) (by dsimp only [List.set]; try rfl) ?_
  refine wpList_nil (hK1 _ _ ?_)
  refine wp_seq_k fun K2 hK2 => ?_
  refine wp_seq_k fun K3 hK3 => ?_
  obtain ⟨β1, hβ1⟩ : ∃ b : Bool, b = (fcmp .neq (ford .f64 (cf .f64 x) (cf .f64 x))) := ⟨_, rfl⟩
  obtain ⟨β2, hβ2⟩ : ∃ b : Bool, b = (fcmp .neq (ford .f64 (cf .f64 y) (cf .f64 y))) := ⟨_, rfl⟩
  refine region_text (
    [Fact.pure [] (fun v => v = (Fd x)),
    Fact.pure [] (fun v => v = (Fd x)),
    Fact.pure [5, 6] (fun v => v = (Bo β1)),
    Fact.pure [7] (fun v => v = (Bo β1)),
    Fact.pure [8] (fun v => β1 = false → v = (Fd y)),
    Fact.pure [8] (fun v => β1 = false → v = (Fd y)),
    Fact.pure [9, 10, 8] (fun v => β1 = false → v = (Bo β2)),
    Fact.pure [8, 11] (fun v => v = (Bo (β1 || β2)))]) (by simp [Fact.pure, Fact.mem]) ?_
  refine RW_d _ rfl (fun v => by dsimp only [List.set]; try rfl) (fun u hu hF => ?_) (fun v4 => ?_)
  · clear hF
    refine doesG_un rfl ?_
    refine (does_move (u := (Fd x)) (ev rfl)).mono ?_; rintro _ _ ⟨rfl, rfl⟩
    exact ⟨rfl, Ext.refl _⟩
  refine RW_d _ rfl (fun v => by dsimp only [List.set]; try rfl) (fun u hu hF => ?_) (fun v5 => ?_)
  · clear hF
    refine doesG_un rfl ?_
    refine (does_move (u := (Fd x)) (ev rfl)).mono ?_; rintro _ _ ⟨rfl, rfl⟩
    exact ⟨rfl, Ext.refl _⟩
  refine RW_d _ rfl (fun v => by dsimp only [List.set]; try rfl) (fun u hu hF => ?_) (fun v6 => ?_)
  · have h5_ : v4 = (Fd x) := hF.1
    have h6_ : v5 = (Fd x) := hF.2.1
    clear hF
    refine doesG_un rfl ?_
    obtain rfl := h5_
    obtain rfl := h6_
    refine (does_fcmp (.inr (.inl rfl)) (ev rfl) (ev rfl)).mono ?_; rintro _ _ ⟨rfl, rfl⟩
    exact ⟨(by first | rfl | (show _ = _; simp only [hβ1]; done) | (show _ = _; simp only [hβ1]; rfl)), Ext.refl _⟩
  refine RW_d _ rfl (fun v => by dsimp only [List.set]; try rfl) (fun u hu hF => ?_) (fun v7 => ?_)
  · have h7_ : v6 = (Bo β1) := hF.1
    clear hF
    refine doesG_un rfl ?_
    obtain rfl := h7_
    refine (does_move (u := (Bo β1)) (ev rfl)).mono ?_; rintro _ _ ⟨rfl, rfl⟩
    exact ⟨rfl, Ext.refl _⟩
  refine RW_d _ rfl (fun v => by dsimp only [List.set]; try rfl) (fun u hu hF => ?_) (fun v8 => ?_)
  · have h8_ : v7 = (Bo β1) := hF.1
    clear hF
    obtain rfl := h8_
    refine doesG_g (b := β1) rfl (yld rfl rfl) (fun hg1 => ?_) (fun hc => ⟨fun hg1 => absurd hg1 hc, Ext.refl _⟩)
    refine (does_move (u := (Fd y)) (ev rfl)).mono ?_; rintro _ _ ⟨rfl, rfl⟩
    exact ⟨fun _ => rfl, Ext.refl _⟩
  refine RW_d _ rfl (fun v => by dsimp only [List.set]; try rfl) (fun u hu hF => ?_) (fun v9 => ?_)
  · have h8_ : v7 = (Bo β1) := hF.1
    clear hF
    obtain rfl := h8_
    refine doesG_g (b := β1) rfl (yld rfl rfl) (fun hg1 => ?_) (fun hc => ⟨fun hg1 => absurd hg1 hc, Ext.refl _⟩)
    refine (does_move (u := (Fd y)) (ev rfl)).mono ?_; rintro _ _ ⟨rfl, rfl⟩
    exact ⟨fun _ => rfl, Ext.refl _⟩
  refine RW_d _ rfl (fun v => by dsimp only [List.set]; try rfl) (fun u hu hF => ?_) (fun v10 => ?_)
  · have h9_ : β1 = false → v8 = (Fd y) := hF.1
    have h10_ : β1 = false → v9 = (Fd y) := hF.2.1
    have h8_ : v7 = (Bo β1) := hF.2.2.1
    clear hF
    obtain rfl := h8_
    refine doesG_g (b := β1) rfl (yld rfl rfl) (fun hg1 => ?_) (fun hc => ⟨fun hg1 => absurd hg1 hc, Ext.refl _⟩)
    obtain rfl := h9_ hg1
    obtain rfl := h10_ hg1
    refine (does_fcmp (.inr (.inl rfl)) (ev rfl) (ev rfl)).mono ?_; rintro _ _ ⟨rfl, rfl⟩
    exact ⟨fun _ => (by first | rfl | (show _ = _; simp only [hβ2]; done) | (show _ = _; simp only [hβ2]; rfl)), Ext.refl _⟩
  refine RW_d _ rfl (fun v => by dsimp only [List.set]; try rfl) (fun u hu hF => ?_) (fun v11 => ?_)
  · have h8_ : v7 = (Bo β1) := hF.1
    have h11_ : β1 = false → v10 = (Bo β2) := hF.2.1
    clear hF
    refine doesG_un rfl ?_
    skip
    obtain rfl := h8_
    refine (does_pick (b := β1) (u := (Bo true)) (v := v10) (ev rfl) (ev rfl) (ev rfl)).mono ?_; rintro _ _ ⟨rfl, rfl⟩; refine ⟨?_, Ext.refl _⟩; skip
    cases hbb : β1
    all_goals first | (show _ = _; simp only [↓reduceIte, Bool.true_and, Bool.false_and, Bool.true_or, Bool.false_or, Bool.false_eq_true]; done) | (have e_ := h11_ hbb; subst e_; show _ = _; simp only [↓reduceIte, Bool.true_and, Bool.false_and, Bool.true_or, Bool.false_or, Bool.false_eq_true]; done) | rfl | (have e_ := h11_ hbb; subst e_; rfl) | (simp [hbb] at h11_ ⊢; first | done | rfl | (subst h11_; rfl) | simp_all) | (simp [hbb] at h11_ ⊢; done)
  refine RW_fin ?_; intro w12 E13 hP14
  obtain ⟨⟨⟨⟨⟨⟨⟨⟨-, -⟩, -⟩, -⟩, -⟩, -⟩, -⟩, -⟩, q15⟩ := hP14
  have X16 := Ext.gr (Ext.refl w) E13
  have q15 : v11 = (Bo (β1 || β2)) := q15
  obtain rfl := q15
  show wpList _ _ _ _ (fr [_, _, _, _, _, _, _, _, _, _, _, _, _, _, _, _, _, _, _, _, _, _, _, _, _, _, _, _, _, _, _, _, _, _, _, _, _]) _
  refine wpList_nil (hK3 _ _ ?_)
  refine wp_cond_split (t := β1 || β2) (ev rfl) (fun c17 => ?_) (fun c17 => ?_)
  · have c17' := c17
    (try simp only [hβ1, hβ2] at c17')
    (try simp only [icmp, Bool.and_eq_true, Bool.or_eq_true, Bool.and_eq_false_iff, Bool.or_eq_false_iff, Bool.not_eq_true', Bool.not_eq_false', decide_eq_true_eq, decide_eq_false_iff_not, beq_iff_eq, bne_iff_ne, beq_eq_false_iff_ne, bne_eq_false_iff_eq] at c17')
    refine wp_seq_k fun K18 hK18 => ?_
    obtain ⟨β3, hβ3⟩ : ∃ b : Bool, b = (fcmp .neq (ford .f64 (cf .f64 x) (cf .f64 x))) := ⟨_, rfl⟩
    obtain ⟨β4, hβ4⟩ : ∃ b : Bool, b = (fcmp .neq (ford .f64 (cf .f64 y) (cf .f64 y))) := ⟨_, rfl⟩
    refine region_text (
      [Fact.pure [] (fun v => v = (Fd x)),
    Fact.pure [] (fun v => v = (Fd x)),
    Fact.pure [13, 14] (fun v => v = (Bo β3)),
    Fact.pure [15] (fun v => v = (Bo β3)),
    Fact.pure [16] (fun v => β3 = true → v = (Fd y)),
    Fact.pure [16] (fun v => β3 = true → v = (Fd y)),
    Fact.pure [17, 18, 16] (fun v => β3 = true → v = (Bo β4)),
    Fact.pure [16, 19] (fun v => v = (Bo (β3 && β4)))]) (by simp [Fact.pure, Fact.mem]) ?_
    refine RW_d _ rfl (fun v => by dsimp only [List.set]; try rfl) (fun u hu hF => ?_) (fun v19 => ?_)
    · clear hF
      refine doesG_un rfl ?_
      refine (does_move (u := (Fd x)) (ev rfl)).mono ?_; rintro _ _ ⟨rfl, rfl⟩
      exact ⟨rfl, Ext.refl _⟩
    refine RW_d _ rfl (fun v => by dsimp only [List.set]; try rfl) (fun u hu hF => ?_) (fun v20 => ?_)
    · clear hF
      refine doesG_un rfl ?_
      refine (does_move (u := (Fd x)) (ev rfl)).mono ?_; rintro _ _ ⟨rfl, rfl⟩
      exact ⟨rfl, Ext.refl _⟩
    refine RW_d _ rfl (fun v => by dsimp only [List.set]; try rfl) (fun u hu hF => ?_) (fun v21 => ?_)
    · have h13_ : v19 = (Fd x) := hF.1
      have h14_ : v20 = (Fd x) := hF.2.1
      clear hF
      refine doesG_un rfl ?_
      obtain rfl := h13_
      obtain rfl := h14_
      refine (does_fcmp (.inr (.inl rfl)) (ev rfl) (ev rfl)).mono ?_; rintro _ _ ⟨rfl, rfl⟩
      exact ⟨(by first | rfl | (show _ = _; simp only [hβ3]; done) | (show _ = _; simp only [hβ3]; rfl)), Ext.refl _⟩
    refine RW_d _ rfl (fun v => by dsimp only [List.set]; try rfl) (fun u hu hF => ?_) (fun v22 => ?_)
    · have h15_ : v21 = (Bo β3) := hF.1
      clear hF
      refine doesG_un rfl ?_
      obtain rfl := h15_
      refine (does_move (u := (Bo β3)) (ev rfl)).mono ?_; rintro _ _ ⟨rfl, rfl⟩
      exact ⟨rfl, Ext.refl _⟩
    refine RW_d _ rfl (fun v => by dsimp only [List.set]; try rfl) (fun u hu hF => ?_) (fun v23 => ?_)
    · have h16_ : v22 = (Bo β3) := hF.1
      clear hF
      obtain rfl := h16_
      refine doesG_g (b := β3) rfl (yld rfl rfl) (fun hg1 => ?_) (fun hc => ⟨fun hg1 => absurd hg1 hc, Ext.refl _⟩)
      refine (does_move (u := (Fd y)) (ev rfl)).mono ?_; rintro _ _ ⟨rfl, rfl⟩
      exact ⟨fun _ => rfl, Ext.refl _⟩
    refine RW_d _ rfl (fun v => by dsimp only [List.set]; try rfl) (fun u hu hF => ?_) (fun v24 => ?_)
    · have h16_ : v22 = (Bo β3) := hF.1
      clear hF
      obtain rfl := h16_
      refine doesG_g (b := β3) rfl (yld rfl rfl) (fun hg1 => ?_) (fun hc => ⟨fun hg1 => absurd hg1 hc, Ext.refl _⟩)
      refine (does_move (u := (Fd y)) (ev rfl)).mono ?_; rintro _ _ ⟨rfl, rfl⟩
      exact ⟨fun _ => rfl, Ext.refl _⟩
    refine RW_d _ rfl (fun v => by dsimp only [List.set]; try rfl) (fun u hu hF => ?_) (fun v25 => ?_)
    · have h17_ : β3 = true → v23 = (Fd y) := hF.1
      have h18_ : β3 = true → v24 = (Fd y) := hF.2.1
      have h16_ : v22 = (Bo β3) := hF.2.2.1
      clear hF
      obtain rfl := h16_
      refine doesG_g (b := β3) rfl (yld rfl rfl) (fun hg1 => ?_) (fun hc => ⟨fun hg1 => absurd hg1 hc, Ext.refl _⟩)
      obtain rfl := h17_ hg1
      obtain rfl := h18_ hg1
      refine (does_fcmp (.inr (.inl rfl)) (ev rfl) (ev rfl)).mono ?_; rintro _ _ ⟨rfl, rfl⟩
      exact ⟨fun _ => (by first | rfl | (show _ = _; simp only [hβ4]; done) | (show _ = _; simp only [hβ4]; rfl)), Ext.refl _⟩
    refine RW_d _ rfl (fun v => by dsimp only [List.set]; try rfl) (fun u hu hF => ?_) (fun v26 => ?_)
    · have h16_ : v22 = (Bo β3) := hF.1
      have h19_ : β3 = true → v25 = (Bo β4) := hF.2.1
      clear hF
      refine doesG_un rfl ?_
      skip
      obtain rfl := h16_
      refine (does_pick (b := β3) (u := v25) (v := (Bo false)) (ev rfl) (ev rfl) (ev rfl)).mono ?_; rintro _ _ ⟨rfl, rfl⟩; refine ⟨?_, Ext.refl _⟩; skip
      cases hbb : β3
      all_goals first | (show _ = _; simp only [↓reduceIte, Bool.true_and, Bool.false_and, Bool.true_or, Bool.false_or, Bool.false_eq_true]; done) | (have e_ := h19_ hbb; subst e_; show _ = _; simp only [↓reduceIte, Bool.true_and, Bool.false_and, Bool.true_or, Bool.false_or, Bool.false_eq_true]; done) | rfl | (have e_ := h19_ hbb; subst e_; rfl) | (simp [hbb] at h19_ ⊢; first | done | rfl | (subst h19_; rfl) | simp_all) | (simp [hbb] at h19_ ⊢; done)
    refine RW_fin ?_; intro w27 E28 hP29
    obtain ⟨⟨⟨⟨⟨⟨⟨⟨-, -⟩, -⟩, -⟩, -⟩, -⟩, -⟩, -⟩, q30⟩ := hP29
    have X31 := Ext.gr X16 E28
    have q30 : v26 = (Bo (β3 && β4)) := q30
    obtain rfl := q30
    show wpList _ _ _ _ (fr [_, _, _, _, _, _, _, _, _, _, _, _, _, _, _, _, _, _, _, _, _, _, _, _, _, _, _, _, _, _, _, _, _, _, _, _, _]) _
    refine q_is rfl rfl (does_assign (u := (Bo (β3 && β4))) (ev rfl)) (by dsimp only [List.set]; try rfl) ?_
    refine wpList_nil (hK18 _ _ ?_)
    refine wp_ret ?_
    dsimp only [Exit.then, Exit.inBlock]
    refine ret_val (v := (Bo (β3 && β4))) (res_T rfl (slot rfl)) X31 ?_
    try simp only [hβ1, hβ2, hβ3, hβ4] at c17
    have x32 : (sameF (cf .f64 x) (cf .f64 y)) = (β3 && β4) := by first | with_reducible rfl | (simp only [sameF, hβ1, hβ2, hβ3, hβ4, c17]; done) | (simp [sameF, hβ1, hβ2, hβ3, hβ4, c17]; done) | (revert c17; simp +contextual [sameF, hβ1, hβ2, hβ3, hβ4]; done) | (rcases c17' with hh | hh <;> simp only [hh, sameF, hβ1, hβ2, hβ3, hβ4, c17]; done) | (rcases c17' with hh | hh <;> simp_all [sameF]; done) | (rcases c17' with hh | hh | hh <;> simp_all [sameF]; done) | (rcases c17' with hh | hh | hh | hh <;> simp_all [sameF]; done) | (simp_all [sameF]; done) | rfl
    exact (by first | with_reducible rfl | rw [x32] | rfl)
  have c17' := c17
  (try simp only [hβ1, hβ2] at c17')
  (try simp only [icmp, Bool.and_eq_true, Bool.or_eq_true, Bool.and_eq_false_iff, Bool.or_eq_false_iff, Bool.not_eq_true', Bool.not_eq_false', decide_eq_true_eq, decide_eq_false_iff_not, beq_iff_eq, bne_iff_ne, beq_eq_false_iff_ne, bne_eq_false_iff_eq] at c17')
  refine wp_skip (hK2 _ _ ?_)
  refine wp_seq_k fun K33 hK33 => ?_
  refine wp_seq_k fun K34 hK34 => ?_
  obtain ⟨β5, hβ5⟩ : ∃ b : Bool, b = (fcmp .eql (ford .f64 (cf .f64 x) (cf .f64 0))) := ⟨_, rfl⟩
  obtain ⟨β6, hβ6⟩ : ∃ b : Bool, b = (fcmp .eql (ford .f64 (cf .f64 y) (cf .f64 0))) := ⟨_, rfl⟩
  refine region_text (
    [Fact.pure [] (fun v => v = (Fd x)),
    Fact.pure [21] (fun v => v = (Bo β5)),
    Fact.pure [22] (fun v => v = (Bo β5)),
    Fact.pure [23] (fun v => β5 = true → v = (Fd y)),
    Fact.pure [24, 23] (fun v => β5 = true → v = (Bo β6)),
    Fact.pure [23, 25] (fun v => v = (Bo (β5 && β6)))]) (by simp [Fact.pure, Fact.mem]) ?_
  refine RW_d _ rfl (fun v => by dsimp only [List.set]; try rfl) (fun u hu hF => ?_) (fun v35 => ?_)
  · clear hF
    refine doesG_un rfl ?_
    refine (does_move (u := (Fd x)) (ev rfl)).mono ?_; rintro _ _ ⟨rfl, rfl⟩
    exact ⟨rfl, Ext.refl _⟩
  refine RW_d _ rfl (fun v => by dsimp only [List.set]; try rfl) (fun u hu hF => ?_) (fun v36 => ?_)
  · have h21_ : v35 = (Fd x) := hF.1
    clear hF
    refine doesG_un rfl ?_
    obtain rfl := h21_
    refine (does_fcmp (.inl rfl) (ev rfl) (ev rfl)).mono ?_; rintro _ _ ⟨rfl, rfl⟩
    exact ⟨(by first | rfl | (show _ = _; simp only [hβ5]; done) | (show _ = _; simp only [hβ5]; rfl)), Ext.refl _⟩
  refine RW_d _ rfl (fun v => by dsimp only [List.set]; try rfl) (fun u hu hF => ?_) (fun v37 => ?_)
  · have h22_ : v36 = (Bo β5) := hF.1
    clear hF
    refine doesG_un rfl ?_
    obtain rfl := h22_
    refine (does_move (u := (Bo β5)) (ev rfl)).mono ?_; rintro _ _ ⟨rfl, rfl⟩
    exact ⟨rfl, Ext.refl _⟩
  refine RW_d _ rfl (fun v => by dsimp only [List.set]; try rfl) (fun u hu hF => ?_) (fun v38 => ?_)
  · have h23_ : v37 = (Bo β5) := hF.1
    clear hF
    obtain rfl := h23_
    refine doesG_g (b := β5) rfl (yld rfl rfl) (fun hg1 => ?_) (fun hc => ⟨fun hg1 => absurd hg1 hc, Ext.refl _⟩)
    refine (does_move (u := (Fd y)) (ev rfl)).mono ?_; rintro _ _ ⟨rfl, rfl⟩
    exact ⟨fun _ => rfl, Ext.refl _⟩
  refine RW_d _ rfl (fun v => by dsimp only [List.set]; try rfl) (fun u hu hF => ?_) (fun v39 => ?_)
  · have h24_ : β5 = true → v38 = (Fd y) := hF.1
    have h23_ : v37 = (Bo β5) := hF.2.1
    clear hF
    obtain rfl := h23_
    refine doesG_g (b := β5) rfl (yld rfl rfl) (fun hg1 => ?_) (fun hc => ⟨fun hg1 => absurd hg1 hc, Ext.refl _⟩)
    obtain rfl := h24_ hg1
    refine (does_fcmp (.inl rfl) (ev rfl) (ev rfl)).mono ?_; rintro _ _ ⟨rfl, rfl⟩
    exact ⟨fun _ => (by first | rfl | (show _ = _; simp only [hβ6]; done) | (show _ = _; simp only [hβ6]; rfl)), Ext.refl _⟩
  refine RW_d _ rfl (fun v => by dsimp only [List.set]; try rfl) (fun u hu hF => ?_) (fun v40 => ?_)
  · have h23_ : v37 = (Bo β5) := hF.1
    have h25_ : β5 = true → v39 = (Bo β6) := hF.2.1
    clear hF
    refine doesG_un rfl ?_
    skip
    obtain rfl := h23_
    refine (does_pick (b := β5) (u := v39) (v := (Bo false)) (ev rfl) (ev rfl) (ev rfl)).mono ?_; rintro _ _ ⟨rfl, rfl⟩; refine ⟨?_, Ext.refl _⟩; skip
    cases hbb : β5
    all_goals first | (show _ = _; simp only [↓reduceIte, Bool.true_and, Bool.false_and, Bool.true_or, Bool.false_or, Bool.false_eq_true]; done) | (have e_ := h25_ hbb; subst e_; show _ = _; simp only [↓reduceIte, Bool.true_and, Bool.false_and, Bool.true_or, Bool.false_or, Bool.false_eq_true]; done) | rfl | (have e_ := h25_ hbb; subst e_; rfl) | (simp [hbb] at h25_ ⊢; first | done | rfl | (subst h25_; rfl) | simp_all) | (simp [hbb] at h25_ ⊢; done)
  refine RW_fin ?_; intro w41 E42 hP43
  obtain ⟨⟨⟨⟨⟨⟨-, -⟩, -⟩, -⟩, -⟩, -⟩, q44⟩ := hP43
  have X45 := Ext.gr X16 E42
  have q44 : v40 = (Bo (β5 && β6)) := q44
  obtain rfl := q44
  show wpList _ _ _ _ (fr [_, _, _, _, _, _, _, _, _, _, _, _, _, _, _, _, _, _, _, _, _, _, _, _, _, _, _, _, _, _, _, _, _, _, _, _, _]) _
  refine wpList_nil (hK34 _ _ ?_)
  refine wp_cond_split (t := β5 && β6) (ev rfl) (fun c46 => ?_) (fun c46 => ?_)
  · have c46' := c46
    (try simp only [hβ1, hβ2, hβ5, hβ6] at c46')
    (try simp only [icmp, Bool.and_eq_true, Bool.or_eq_true, Bool.and_eq_false_iff, Bool.or_eq_false_iff, Bool.not_eq_true', Bool.not_eq_false', decide_eq_true_eq, decide_eq_false_iff_not, beq_iff_eq, bne_iff_ne, beq_eq_false_iff_ne, bne_eq_false_iff_eq] at c46')
    refine wp_seq_k fun K47 hK47 => ?_
    refine wp_region_lit ?_
    refine q_is rfl rfl (does_move (u := (Fd x)) (ev rfl)) (by dsimp only [List.set]; try rfl) ?_
    refine seqd rfl rfl (does_float (.inr (.inr (.inr rfl))) (ev rfl) (ev rfl)) ?_; rintro _ w51 ⟨r48, rfl, h49, E50⟩
    have X52 := Ext.gr X45 E50
    show wpList _ _ _ _ (fr [_, _, _, _, _, _, _, _, _, _, _, _, _, _, _, _, _, _, _, _, _, _, _, _, _, _, _, _, _, _, _, _, _, _, _, _, _]) _
    refine q_is rfl rfl (does_fcmp (.inr (.inr (.inr (.inr (.inl rfl))))) (ev rfl) (ev rfl)) (by dsimp only [List.set]; try rfl) ?_
    refine q_is rfl rfl (does_move (u := (Fd y)) (ev rfl)) (by dsimp only [List.set]; try rfl) ?_
    refine seqd rfl rfl (does_float (.inr (.inr (.inr rfl))) (ev rfl) (ev rfl)) ?_; rintro _ w56 ⟨r53, rfl, h54, E55⟩
    have X57 := Ext.gr X52 E55
    show wpList _ _ _ _ (fr [_, _, _, _, _, _, _, _, _, _, _, _, _, _, _, _, _, _, _, _, _, _, _, _, _, _, _, _, _, _, _, _, _, _, _, _, _]) _
    refine q_is rfl rfl (does_fcmp (.inr (.inr (.inr (.inr (.inl rfl))))) (ev rfl) (ev rfl)) (by dsimp only [List.set]; try rfl) ?_
    refine q_is rfl rfl (does_beq (p := (fcmp .gtr (ford .f64 (cf .f64 r48) (cf .f64 0)))) (q := (fcmp .gtr (ford .f64 (cf .f64 r53) (cf .f64 0)))) Try.underlying4 (ev rfl) (ev rfl)) (by dsimp only [List.set]; try rfl) ?_
    refine q_is rfl rfl (does_assign (u := (Bo ((fcmp .gtr (ford .f64 (cf .f64 r48) (cf .f64 0))) == (fcmp .gtr (ford .f64 (cf .f64 r53) (cf .f64 0)))))) (ev rfl)) (by dsimp only [List.set]; try rfl) ?_
    refine wpList_nil (hK47 _ _ ?_)
    refine wp_ret ?_
    dsimp only [Exit.then, Exit.inBlock]
    refine ret_val (v := (Bo ((fcmp .gtr (ford .f64 (cf .f64 r48) (cf .f64 0))) == (fcmp .gtr (ford .f64 (cf .f64 r53) (cf .f64 0)))))) (res_T rfl (slot rfl)) X57 ?_
    try simp only [hβ1, hβ2, hβ5, hβ6, h49, h54] at c17 c46
    have x58 : (sameF (cf .f64 x) (cf .f64 y)) = ((fcmp .gtr (ford .f64 (cf .f64 r48) (cf .f64 0))) == (fcmp .gtr (ford .f64 (cf .f64 r53) (cf .f64 0)))) := by first | with_reducible rfl | (simp only [sameF, hβ1, hβ2, hβ5, hβ6, h49, h54, c17, c46]; done) | (simp [sameF, hβ1, hβ2, hβ5, hβ6, h49, h54, c17, c46]; done) | (revert c17 c46; simp +contextual [sameF, hβ1, hβ2, hβ5, hβ6, h49, h54]; done) | (rcases c17' with hh | hh <;> simp only [hh, sameF, hβ1, hβ2, hβ5, hβ6, h49, h54, c17, c46]; done) | (rcases c46' with hh | hh <;> simp only [hh, sameF, hβ1, hβ2, hβ5, hβ6, h49, h54, c17, c46]; done) | (rcases c46' with hh | hh <;> simp_all [sameF]; done) | (rcases c46' with hh | hh | hh <;> simp_all [sameF]; done) | (rcases c46' with hh | hh | hh | hh <;> simp_all [sameF]; done) | (simp_all [sameF]; done) | rfl
    exact (by first | with_reducible rfl | rw [x58] | rfl)
  have c46' := c46
  (try simp only [hβ1, hβ2, hβ5, hβ6] at c46')
  (try simp only [icmp, Bool.and_eq_true, Bool.or_eq_true, Bool.and_eq_false_iff, Bool.or_eq_false_iff, Bool.not_eq_true', Bool.not_eq_false', decide_eq_true_eq, decide_eq_false_iff_not, beq_iff_eq, bne_iff_ne, beq_eq_false_iff_ne, bne_eq_false_iff_eq] at c46')
  refine wp_skip (hK33 _ _ ?_)
  refine wp_seq_k fun K59 hK59 => ?_
  refine wp_region_lit ?_
  refine q_is rfl rfl (does_move (u := (Fd x)) (ev rfl)) (by dsimp only [List.set]; try rfl) ?_
  refine q_is rfl rfl (does_move (u := (Fd y)) (ev rfl)) (by dsimp only [List.set]; try rfl) ?_
  refine q_is rfl rfl (does_fcmp (.inl rfl) (ev rfl) (ev rfl)) (by dsimp only [List.set]; try rfl) ?_
  refine q_is rfl rfl (does_assign (u := (Bo (fcmp .eql (ford .f64 (cf .f64 x) (cf .f64 y))))) (ev rfl)) (by dsimp only [List.set]; try rfl) ?_
  refine wpList_nil (hK59 _ _ ?_)
  refine wp_ret ?_
  refine ret_val (v := (Bo (fcmp .eql (ford .f64 (cf .f64 x) (cf .f64 y))))) (res_T rfl (slot rfl)) X45 ?_
  try simp only [hβ1, hβ2, hβ5, hβ6] at c17 c46
  have x60 : (sameF (cf .f64 x) (cf .f64 y)) = (fcmp .eql (ford .f64 (cf .f64 x) (cf .f64 y))) := by first | with_reducible rfl | (simp only [sameF, hβ1, hβ2, hβ5, hβ6, c17, c46]; done) | (simp [sameF, hβ1, hβ2, hβ5, hβ6, c17, c46]; done) | (revert c17 c46; simp +contextual [sameF, hβ1, hβ2, hβ5, hβ6]; done) | (rcases c17' with hh | hh <;> simp only [hh, sameF, hβ1, hβ2, hβ5, hβ6, c17, c46]; done) | (rcases c46' with hh | hh <;> simp only [hh, sameF, hβ1, hβ2, hβ5, hβ6, c17, c46]; done) | (rcases c46' with hh | hh <;> simp_all [sameF]; done) | (rcases c46' with hh | hh | hh <;> simp_all [sameF]; done) | (rcases c46' with hh | hh | hh | hh <;> simp_all [sameF]; done) | (simp_all [sameF]; done) | rfl
  exact (by first | with_reducible rfl | rw [x60] | rfl)

/- laws.eqVector -/
theorem c_laws_eqVector (a : List Value) (A_a : V3) (b : List Value) (A_b : V3) (w : World) (hv_a : RV3 w A_a a) (hv_b : RV3 w A_b b) : Gives Try.prog 52 #[(.agg a.toArray), (.agg b.toArray)] w (fun v w' => v = (Bo (sameV A_a A_b))) := by
  obtain ⟨r1, r3, r5, rfl, h2, h4, h6⟩ := hv_a
  obtain ⟨r7, r9, r11, rfl, h8, h10, h12⟩ := hv_b
  refine enter [(.agg #[(Fl r1), (Fl r3), (Fl r5)]), (.agg #[(Fl r7), (Fl r9), (Fl r11)]), Ud, Ud, Ud, Ud, Ud, Ud, Ud, Ud, Ud, Ud, Ud, Ud, Ud, Ud, Ud, Ud, Ud, Ud, Ud, Ud, Ud, Ud, Ud, Ud, Ud, Ud, Ud] Try.func52 rfl Try.ntmps52 rfl ?_
  refine wp_seq_k fun K13 hK13 => ?_
  refine wp_region_lit ?_
  refine seqd rfl rfl (does_box (u := (.agg #[(Fl r1), (Fl r3), (Fl r5)])) (ev rfl)) ?_; rintro _ w18 ⟨b14, rfl, hb15, hB16, E17⟩
  have g19 : w.heap.size ≤ b14 := Nat.le_trans (Below.size (Ext.refl w)) hb15
  change Blk _ _ [(Fl r1), (Fl r3), (Fl r5)] at hB16
  have X20 := Ext.gr (Ext.refl w) E17
  show wpList _ _ _ _ (fr [_, _, _, _, _, _, _, _, _, _, _, _, _, _, _, _, _, _, _, _, _, _, _, _, _, _, _, _, _]) _
  refine seqd rfl rfl (does_box (u := (.agg #[(Fl r7), (Fl r9), (Fl r11)])) (ev rfl)) ?_; rintro _ w25 ⟨b21, rfl, hb22, hB23, E24⟩
  have n26 : b14 < b21 := Nat.lt_of_lt_of_le (Blk.lt hB16) hb22
  have g27 : w.heap.size ≤ b21 := Nat.le_trans (Below.size X20) hb22
  change Blk _ _ [(Fl r7), (Fl r9), (Fl r11)] at hB23
  have X28 := Ext.gr X20 E24
  show wpList _ _ _ _ (fr [_, _, _, _, _, _, _, _, _, _, _, _, _, _, _, _, _, _, _, _, _, _, _, _, _, _, _, _, _]) _
  refine q_is rfl rfl (does_assign (u := (Bo false)) (ev rfl)) (by dsimp only [List.set]; try rfl) ?_
  refine wpList_nil (hK13 _ _ ?_)
  refine wp_seq_k fun K29 hK29 => ?_
  refine wp_seq_k fun K30 hK30 => ?_
  refine wp_region_lit ?_
  refine q_is rfl rfl (does_fieldAddr (ev rfl) fa57_0) (by dsimp only [List.set]; try rfl) ?_
  refine q_is rfl rfl (does_load (u := (Fl r1)) (ev rfl) Try.isAgg55 (Cells.at (Blk.cells (hB16.ext E24)) 0 rfl)) (by dsimp only [List.set]; try rfl) ?_
  refine seqd rfl rfl (does_widen Try.underlying55 Try.underlying85 (ev rfl)) ?_; rintro _ w34 ⟨r31, rfl, h32, E33⟩
  have X35 := Ext.gr X28 E33
  show wpList _ _ _ _ (fr [_, _, _, _, _, _, _, _, _, _, _, _, _, _, _, _, _, _, _, _, _, _, _, _, _, _, _, _, _]) _
  refine q_is rfl rfl (does_fieldAddr (ev rfl) fa57_0) (by dsimp only [List.set]; try rfl) ?_
  refine q_is rfl rfl (does_load (u := (Fl r7)) (ev rfl) Try.isAgg55 (Cells.at (Blk.cells (hB23.ext E33)) 0 rfl)) (by dsimp only [List.set]; try rfl) ?_
  refine seqd rfl rfl (does_widen Try.underlying55 Try.underlying85 (ev rfl)) ?_; rintro _ w39 ⟨r36, rfl, h37, E38⟩
  have X40 := Ext.gr X35 E38
  show wpList _ _ _ _ (fr [_, _, _, _, _, _, _, _, _, _, _, _, _, _, _, _, _, _, _, _, _, _, _, _, _, _, _, _, _]) _
  refine seqd rfl rfl (does_call (args := #[(Fd r31), (Fd r36)]) cal61 (evs rfl) (c_laws_sameFloat r31 r36 _)) ?_; rintro _ w42 ⟨E41, rfl⟩
  have X43 := Ext.gr X40 E41
  show wpList _ _ _ _ (fr [_, _, _, _, _, _, _, _, _, _, _, _, _, _, _, _, _, _, _, _, _, _, _, _, _, _, _, _, _]) _
  refine q_is rfl rfl (does_not (ev rfl)) (by dsimp only [List.set]; try rfl) ?_
  refine wpList_nil (hK30 _ _ ?_)
  refine wp_cond_split (t := !(sameF (cf .f64 r31) (cf .f64 r36))) (ev rfl) (fun c44 => ?_) (fun c44 => ?_)
  · rw [Bool.not_eq_true'] at c44
    have c44' := c44
    refine wp_seq_k fun K45 hK45 => ?_
    refine wp_region_lit ?_
    refine q_is rfl rfl (does_assign (u := (Bo false)) (ev rfl)) (by dsimp only [List.set]; try rfl) ?_
    refine wpList_nil (hK45 _ _ ?_)
    refine wp_ret ?_
    dsimp only [Exit.then, Exit.inBlock]
    refine ret_val (v := (Bo false)) (res_T rfl (slot rfl)) X43 ?_
    try simp only [h2, h4, h6, h8, h10, h12, h32, h37] at c44
    have x46 : (sameV A_a A_b) = false := by first | with_reducible rfl | (simp only [sameV, h2, h4, h6, h8, h10, h12, h32, h37, c44]; done) | (simp [sameV, h2, h4, h6, h8, h10, h12, h32, h37, c44]; done) | (revert c44; simp +contextual [sameV, h2, h4, h6, h8, h10, h12, h32, h37]; done) | (rcases c44' with hh | hh <;> simp only [hh, sameV, h2, h4, h6, h8, h10, h12, h32, h37, c44]; done) | (rcases c44' with hh | hh <;> simp_all [sameV]; done) | (rcases c44' with hh | hh | hh <;> simp_all [sameV]; done) | (rcases c44' with hh | hh | hh | hh <;> simp_all [sameV]; done) | (simp_all [sameV]; done) | rfl
    exact (by first | with_reducible rfl | rw [x46] | rfl)
  rw [Bool.not_eq_false'] at c44
  have c44' := c44
  refine wp_skip (hK29 _ _ ?_)
  refine wp_seq_k fun K47 hK47 => ?_
  refine wp_seq_k fun K48 hK48 => ?_
  refine wp_region_lit ?_
  refine q_is rfl rfl (does_fieldAddr (ev rfl) fa57_1) (by dsimp only [List.set]; try rfl) ?_
  refine q_is rfl rfl (does_load (u := (Fl r3)) (ev rfl) Try.isAgg55 (Cells.at (Blk.cells ((((hB16.ext E24).ext E33).ext E38).ext E41)) 1 rfl)) (by dsimp only [List.set]; try rfl) ?_
  refine seqd rfl rfl (does_widen Try.underlying55 Try.underlying85 (ev rfl)) ?_; rintro _ w52 ⟨r49, rfl, h50, E51⟩
  have X53 := Ext.gr X43 E51
  show wpList _ _ _ _ (fr [_, _, _, _, _, _, _, _, _, _, _, _, _, _, _, _, _, _, _, _, _, _, _, _, _, _, _, _, _]) _
  refine q_is rfl rfl (does_fieldAddr (ev rfl) fa57_1) (by dsimp only [List.set]; try rfl) ?_
  refine q_is rfl rfl (does_load (u := (Fl r9)) (ev rfl) Try.isAgg55 (Cells.at (Blk.cells ((((hB23.ext E33).ext E38).ext E41).ext E51)) 1 rfl)) (by dsimp only [List.set]; try rfl) ?_
  refine seqd rfl rfl (does_widen Try.underlying55 Try.underlying85 (ev rfl)) ?_; rintro _ w57 ⟨r54, rfl, h55, E56⟩
  have X58 := Ext.gr X53 E56
  show wpList _ _ _ _ (fr [_, _, _, _, _, _, _, _, _, _, _, _, _, _, _, _, _, _, _, _, _, _, _, _, _, _, _, _, _]) _
  refine seqd rfl rfl (does_call (args := #[(Fd r49), (Fd r54)]) cal61 (evs rfl) (c_laws_sameFloat r49 r54 _)) ?_; rintro _ w60 ⟨E59, rfl⟩
  have X61 := Ext.gr X58 E59
  show wpList _ _ _ _ (fr [_, _, _, _, _, _, _, _, _, _, _, _, _, _, _, _, _, _, _, _, _, _, _, _, _, _, _, _, _]) _
  refine q_is rfl rfl (does_not (ev rfl)) (by dsimp only [List.set]; try rfl) ?_
  refine wpList_nil (hK48 _ _ ?_)
  refine wp_cond_split (t := !(sameF (cf .f64 r49) (cf .f64 r54))) (ev rfl) (fun c62 => ?_) (fun c62 => ?_)
  · rw [Bool.not_eq_true'] at c62
    have c62' := c62
    refine wp_seq_k fun K63 hK63 => ?_
    refine wp_region_lit ?_
    refine q_is rfl rfl (does_assign (u := (Bo false)) (ev rfl)) (by dsimp only [List.set]; try rfl) ?_
    refine wpList_nil (hK63 _ _ ?_)
    refine wp_ret ?_
    dsimp only [Exit.then, Exit.inBlock]
    refine ret_val (v := (Bo false)) (res_T rfl (slot rfl)) X61 ?_
    try simp only [h2, h4, h6, h8, h10, h12, h32, h37, h50, h55] at c44 c62
    have x64 : (sameV A_a A_b) = false := by first | with_reducible rfl | (simp only [sameV, h2, h4, h6, h8, h10, h12, h32, h37, h50, h55, c44, c62]; done) | (simp [sameV, h2, h4, h6, h8, h10, h12, h32, h37, h50, h55, c44, c62]; done) | (revert c44 c62; simp +contextual [sameV, h2, h4, h6, h8, h10, h12, h32, h37, h50, h55]; done) | (rcases c44' with hh | hh <;> simp only [hh, sameV, h2, h4, h6, h8, h10, h12, h32, h37, h50, h55, c44, c62]; done) | (rcases c62' with hh | hh <;> simp only [hh, sameV, h2, h4, h6, h8, h10, h12, h32, h37, h50, h55, c44, c62]; done) | (rcases c62' with hh | hh <;> simp_all [sameV]; done) | (rcases c62' with hh | hh | hh <;> simp_all [sameV]; done) | (rcases c62' with hh | hh | hh | hh <;> simp_all [sameV]; done) | (simp_all [sameV]; done) | rfl
    exact (by first | with_reducible rfl | rw [x64] | rfl)
  rw [Bool.not_eq_false'] at c62
  have c62' := c62
  refine wp_skip (hK47 _ _ ?_)
  refine wp_seq_k fun K65 hK65 => ?_
  refine wp_seq_k fun K66 hK66 => ?_
  refine wp_region_lit ?_
  refine q_is rfl rfl (does_fieldAddr (ev rfl) fa57_2) (by dsimp only [List.set]; try rfl) ?_
  refine q_is rfl rfl (does_load (u := (Fl r5)) (ev rfl) Try.isAgg55 (Cells.at (Blk.cells (((((((hB16.ext E24).ext E33).ext E38).ext E41).ext E51).ext E56).ext E59)) 2 rfl)) (by dsimp only [List.set]; try rfl) ?_
  refine seqd rfl rfl (does_widen Try.underlying55 Try.underlying85 (ev rfl)) ?_; rintro _ w70 ⟨r67, rfl, h68, E69⟩
  have X71 := Ext.gr X61 E69
  show wpList _ _ _ _ (fr [_, _, _, _, _, _, _, _, _, _, _, _, _, _, _, _, _, _, _, _, _, _, _, _, _, _, _, _, _]) _
  refine q_is rfl rfl (does_fieldAddr (ev rfl) fa57_2) (by dsimp only [List.set]; try rfl) ?_
  refine q_is rfl rfl (does_load (u := (Fl r11)) (ev rfl) Try.isAgg55 (Cells.at (Blk.cells (((((((hB23.ext E33).ext E38).ext E41).ext E51).ext E56).ext E59).ext E69)) 2 rfl)) (by dsimp only [List.set]; try rfl) ?_
  refine seqd rfl rfl (does_widen Try.underlying55 Try.underlying85 (ev rfl)) ?_; rintro _ w75 ⟨r72, rfl, h73, E74⟩
  have X76 := Ext.gr X71 E74
  show wpList _ _ _ _ (fr [_, _, _, _, _, _, _, _, _, _, _, _, _, _, _, _, _, _, _, _, _, _, _, _, _, _, _, _, _]) _
  refine seqd rfl rfl (does_call (args := #[(Fd r67), (Fd r72)]) cal61 (evs rfl) (c_laws_sameFloat r67 r72 _)) ?_; rintro _ w78 ⟨E77, rfl⟩
  have X79 := Ext.gr X76 E77
  show wpList _ _ _ _ (fr [_, _, _, _, _, _, _, _, _, _, _, _, _, _, _, _, _, _, _, _, _, _, _, _, _, _, _, _, _]) _
  refine q_is rfl rfl (does_not (ev rfl)) (by dsimp only [List.set]; try rfl) ?_
  refine wpList_nil (hK66 _ _ ?_)
  refine wp_cond_split (t := !(sameF (cf .f64 r67) (cf .f64 r72))) (ev rfl) (fun c80 => ?_) (fun c80 => ?_)
  · rw [Bool.not_eq_true'] at c80
    have c80' := c80
    refine wp_seq_k fun K81 hK81 => ?_
    refine wp_region_lit ?_
    refine q_is rfl rfl (does_assign (u := (Bo false)) (ev rfl)) (by dsimp only [List.set]; try rfl) ?_
    refine wpList_nil (hK81 _ _ ?_)
    refine wp_ret ?_
    dsimp only [Exit.then, Exit.inBlock]
    refine ret_val (v := (Bo false)) (res_T rfl (slot rfl)) X79 ?_
    try simp only [h2, h4, h6, h8, h10, h12, h32, h37, h50, h55, h68, h73] at c44 c62 c80
    have x82 : (sameV A_a A_b) = false := by first | with_reducible rfl | (simp only [sameV, h2, h4, h6, h8, h10, h12, h32, h37, h50, h55, h68, h73, c44, c62, c80]; done) | (simp [sameV, h2, h4, h6, h8, h10, h12, h32, h37, h50, h55, h68, h73, c44, c62, c80]; done) | (revert c44 c62 c80; simp +contextual [sameV, h2, h4, h6, h8, h10, h12, h32, h37, h50, h55, h68, h73]; done) | (rcases c44' with hh | hh <;> simp only [hh, sameV, h2, h4, h6, h8, h10, h12, h32, h37, h50, h55, h68, h73, c44, c62, c80]; done) | (rcases c62' with hh | hh <;> simp only [hh, sameV, h2, h4, h6, h8, h10, h12, h32, h37, h50, h55, h68, h73, c44, c62, c80]; done) | (rcases c80' with hh | hh <;> simp only [hh, sameV, h2, h4, h6, h8, h10, h12, h32, h37, h50, h55, h68, h73, c44, c62, c80]; done) | (rcases c80' with hh | hh <;> simp_all [sameV]; done) | (rcases c80' with hh | hh | hh <;> simp_all [sameV]; done) | (rcases c80' with hh | hh | hh | hh <;> simp_all [sameV]; done) | (simp_all [sameV]; done) | rfl
    exact (by first | with_reducible rfl | rw [x82] | rfl)
  rw [Bool.not_eq_false'] at c80
  have c80' := c80
  refine wp_skip (hK65 _ _ ?_)
  refine wp_seq_k fun K83 hK83 => ?_
  refine wp_region_lit ?_
  refine q_is rfl rfl (does_assign (u := (Bo true)) (ev rfl)) (by dsimp only [List.set]; try rfl) ?_
  refine wpList_nil (hK83 _ _ ?_)
  refine wp_ret ?_
  refine ret_val (v := (Bo true)) (res_T rfl (slot rfl)) X79 ?_
  try simp only [h2, h4, h6, h8, h10, h12, h32, h37, h50, h55, h68, h73] at c44 c62 c80
  have x84 : (sameV A_a A_b) = true := by first | with_reducible rfl | (simp only [sameV, h2, h4, h6, h8, h10, h12, h32, h37, h50, h55, h68, h73, c44, c62, c80]; done) | (simp [sameV, h2, h4, h6, h8, h10, h12, h32, h37, h50, h55, h68, h73, c44, c62, c80]; done) | (revert c44 c62 c80; simp +contextual [sameV, h2, h4, h6, h8, h10, h12, h32, h37, h50, h55, h68, h73]; done) | (rcases c44' with hh | hh <;> simp only [hh, sameV, h2, h4, h6, h8, h10, h12, h32, h37, h50, h55, h68, h73, c44, c62, c80]; done) | (rcases c62' with hh | hh <;> simp only [hh, sameV, h2, h4, h6, h8, h10, h12, h32, h37, h50, h55, h68, h73, c44, c62, c80]; done) | (rcases c80' with hh | hh <;> simp only [hh, sameV, h2, h4, h6, h8, h10, h12, h32, h37, h50, h55, h68, h73, c44, c62, c80]; done) | (rcases c80' with hh | hh <;> simp_all [sameV]; done) | (rcases c80' with hh | hh | hh <;> simp_all [sameV]; done) | (rcases c80' with hh | hh | hh | hh <;> simp_all [sameV]; done) | (simp_all [sameV]; done) | rfl
  exact (by first | with_reducible rfl | rw [x84] | rfl)

/- laws.eqVectorS -/
theorem c_laws_eqVectorS (a : Value) (L_a : List V3) (b : Value) (L_b : List V3) (w : World) (hv_a : Sl RV3 3 w a L_a) (hv_b : Sl RV3 3 w b L_b) : Gives Try.prog 31 #[a, b] w (fun v w' => v = (Bo (sameX sameV L_a L_b))) := by
  have hlen_a := Sl.len hv_a; obtain ⟨p_a, q_a, rfl⟩ := Sl.shape hv_a
  have hlen_b := Sl.len hv_b; obtain ⟨p_b, q_b, rfl⟩ := Sl.shape hv_b
  refine enter [(.slice p_a L_a.length q_a), (.slice p_b L_b.length q_b), Ud, Ud, Ud, Ud, Ud, Ud, Ud, Ud, Ud, Ud, Ud, Ud, Ud, Ud, Ud, Ud, Ud, Ud, Ud, Ud, Ud, Ud, Ud, Ud, Ud] Try.func31 rfl Try.ntmps31 rfl ?_
  refine wp_seq_k fun K1 hK1 => ?_
  refine wp_region_lit ?_
  refine q_is rfl rfl (does_assign (u := (Bo false)) (ev rfl)) (by dsimp only [List.set]; try rfl) ?_
  refine wpList_nil (hK1 _ _ ?_)
  refine wp_seq_k fun K2 hK2 => ?_
  refine wp_seq_k fun K3 hK3 => ?_
  refine wp_region_lit ?_
  refine q_is rfl rfl (does_move (u := (.slice p_a L_a.length q_a)) (ev rfl)) (by dsimp only [List.set]; try rfl) ?_
  refine q_is rfl rfl (does_len_slice Try.underlying30 (ev rfl)) (by dsimp only [List.set]; try rfl) ?_
  refine q_is rfl rfl (does_move (u := (.slice p_b L_b.length q_b)) (ev rfl)) (by dsimp only [List.set]; try rfl) ?_
  refine q_is rfl rfl (does_len_slice Try.underlying30 (ev rfl)) (by dsimp only [List.set]; try rfl) ?_
  refine q_is rfl rfl (does_icmp (p := (L_a.length : Int)) (q := (L_b.length : Int)) (.inr (.inl rfl)) (ev rfl) (ev rfl)) (by dsimp only [List.set]; try rfl) ?_
  refine wpList_nil (hK3 _ _ ?_)
  refine wp_cond_split (t := icmp .neq (L_a.length : Int) (L_b.length : Int)) (ev rfl) (fun c4 => ?_) (fun c4 => ?_)
  · have c4' := c4
    (try simp only [icmp, Bool.and_eq_true, Bool.or_eq_true, Bool.and_eq_false_iff, Bool.or_eq_false_iff, Bool.not_eq_true', Bool.not_eq_false', decide_eq_true_eq, decide_eq_false_iff_not, beq_iff_eq, bne_iff_ne, beq_eq_false_iff_ne, bne_eq_false_iff_eq] at c4')
    refine wp_seq_k fun K5 hK5 => ?_
    refine wp_region_lit ?_
    refine q_is rfl rfl (does_assign (u := (Bo false)) (ev rfl)) (by dsimp only [List.set]; try rfl) ?_
    refine wpList_nil (hK5 _ _ ?_)
    refine wp_ret ?_
    dsimp only [Exit.then, Exit.inBlock]
    refine ret_val (v := (Bo false)) (res_T rfl (slot rfl)) (Ext.refl w) ?_
    have x6 : (sameX sameV L_a L_b) = false := by first | exact (sameX_len (by omega)) | exact (sameX_not (by omega) (by assumption) (by assumption) (by simp_all)) | exact (sameX_all (by omega) (by omega) hs)
    exact (by first | with_reducible rfl | rw [x6] | rfl)
  have c4' := c4
  (try simp only [icmp, Bool.and_eq_true, Bool.or_eq_true, Bool.and_eq_false_iff, Bool.or_eq_false_iff, Bool.not_eq_true', Bool.not_eq_false', decide_eq_true_eq, decide_eq_false_iff_not, beq_iff_eq, bne_iff_ne, beq_eq_false_iff_ne, bne_eq_false_iff_eq] at c4')
  refine wp_skip (hK2 _ _ ?_)
  refine wp_seq_k fun K7 hK7 => ?_
  refine wp_seq_k fun K8 hK8 => ?_
  refine wp_region_lit ?_
  refine q_is rfl rfl (does_assign (u := (Iv 0)) (ev rfl)) (by dsimp only [List.set]; try rfl) ?_
  refine wpList_nil (hK8 _ _ ?_)
  refine wp_block ?_
  refine loop_ghost (σ := Nat) (fun k a w' => ∃ u9 : Nat → Value, a = fr [(.slice p_a L_a.length q_a), (.slice p_b L_b.length q_b), Ud, Ud, (u9 4), (Iv (k : Int)), (.slice p_a L_a.length q_a), (Iv (L_a.length : Int)), (.slice p_b L_b.length q_b), (Iv (L_b.length : Int)), (Bo (icmp .neq (L_a.length : Int) (L_b.length : Int))), (u9 11), (u9 12), (u9 13), (u9 14), (u9 15), (u9 16), (u9 17), (u9 18), (u9 19), (u9 20), (u9 21), (u9 22), (u9 23), (u9 24), (u9 25), (u9 26)] ∧ Ext w w' ∧ (k ≤ L_a.length ∧ SameXTo sameV L_a L_b k)) (fun k => L_a.length - k) 0 ?_ ?_
  · refine ⟨fun t => (([(.slice p_a L_a.length q_a), (.slice p_b L_b.length q_b), Ud, Ud, (Bo false), (Iv 0), (.slice p_a L_a.length q_a), (Iv (L_a.length : Int)), (.slice p_b L_b.length q_b), (Iv (L_b.length : Int)), (Bo (icmp .neq (L_a.length : Int) (L_b.length : Int))), Ud, Ud, Ud, Ud, Ud, Ud, Ud, Ud, Ud, Ud, Ud, Ud, Ud, Ud, Ud, Ud] : List Value)[t]?).getD undef, rfl, Ext.refl _, ?_⟩
    exact ⟨Nat.zero_le _, SameXTo.zero⟩
  · rintro k a w10 ⟨u9, rfl, E11, ⟨hk, hs⟩⟩
    have X13 := Ext.gr (Ext.refl w) E11
    refine wp_seq_k fun K14 hK14 => ?_
    refine wp_seq_k fun K15 hK15 => ?_
    refine wp_region_lit ?_
    refine q_is rfl rfl (does_move (u := (Iv (k : Int))) (ev rfl)) (by dsimp only [List.set]; try rfl) ?_
    refine q_is rfl rfl (does_move (u := (.slice p_a L_a.length q_a)) (ev rfl)) (by dsimp only [List.set]; try rfl) ?_
    refine q_is rfl rfl (does_len_slice Try.underlying30 (ev rfl)) (by dsimp only [List.set]; try rfl) ?_
    refine q_is rfl rfl (does_icmp (p := (k : Int)) (q := (L_a.length : Int)) (.inr (.inr (.inl rfl))) (ev rfl) (ev rfl)) (by dsimp only [List.set]; try rfl) ?_
    refine wpList_nil (hK15 _ _ ?_)
    refine wp_cond_split (t := icmp .lss (k : Int) (L_a.length : Int)) (ev rfl) (fun c16 => ?_) (fun c16 => ?_)
    · have c16' := c16
      (try simp only [icmp, Bool.and_eq_true, Bool.or_eq_true, Bool.and_eq_false_iff, Bool.or_eq_false_iff, Bool.not_eq_true', Bool.not_eq_false', decide_eq_true_eq, decide_eq_false_iff_not, beq_iff_eq, bne_iff_ne, beq_eq_false_iff_ne, bne_eq_false_iff_eq] at c16')
      refine wp_skip (hK14 _ _ ?_)
      refine wp_seq_k fun K17 hK17 => ?_
      refine wp_block ?_
      refine wp_seq_k fun K18 hK18 => ?_
      obtain ⟨el1, hel1⟩ : ∃ e, L_a[k]? = some e := ⟨_, List.getElem?_eq_getElem (by omega)⟩
      obtain ⟨el2, hel2⟩ : ∃ e, L_b[k]? = some e := ⟨_, List.getElem?_eq_getElem (by omega)⟩
      refine region_draw (
        [Fact.pure [] (fun v => v = (.slice p_a L_a.length q_a)),
    Fact.pure [] (fun v => v = (Iv (k : Int))),
    Fact.mem [17, 18] (fun v w' => PtrR RV3 w' v el1) (by intro v w1 w2 hx h; exact h.ext RV3.mono hx),
    Fact.pure [19] (fun v => ∃ cs_1 : List Value, v = (.agg cs_1.toArray) ∧ RV3 w el1 cs_1),
    Fact.pure [] (fun v => v = (.slice p_b L_b.length q_b)),
    Fact.pure [] (fun v => v = (Iv (k : Int))),
    Fact.mem [21, 22] (fun v w' => PtrR RV3 w' v el2) (by intro v w1 w2 hx h; exact h.ext RV3.mono hx),
    Fact.pure [23] (fun v => ∃ cs_1 : List Value, v = (.agg cs_1.toArray) ∧ RV3 w el2 cs_1),
    Fact.pure [20, 24] (fun v => v = (Bo (sameV el1 el2))),
    Fact.pure [25] (fun v => v = (Bo (!(sameV el1 el2))))]) mixed (by kernel_rfl) (by intro _ _ d _ _ h; cases d <;> exact h) ?_
      obtain ⟨w19, hw21⟩ : ∃ w', w' = World.drew w10 := ⟨_, rfl⟩; rw [← hw21]; have E20 : Ext w10 w19 := by rw [hw21]; exact Ext.draw _
      clear hw21
      have X22 := Ext.gr X13 E20
      refine RW_d _ rfl (fun v => by dsimp only [List.set]; try rfl) (fun u hu hF => ?_) (fun v23 => ?_)
      · clear hF
        refine doesG_un rfl ?_
        refine (does_move (u := (.slice p_a L_a.length q_a)) (ev rfl)).mono ?_; rintro _ _ ⟨rfl, rfl⟩
        exact ⟨rfl, Ext.refl _⟩
      refine RW_d _ rfl (fun v => by dsimp only [List.set]; try rfl) (fun u hu hF => ?_) (fun v24 => ?_)
      · clear hF
        refine doesG_un rfl ?_
        refine (does_move (u := (Iv (k : Int))) (ev rfl)).mono ?_; rintro _ _ ⟨rfl, rfl⟩
        exact ⟨rfl, Ext.refl _⟩
      refine RW_d _ rfl (fun v => by dsimp only [List.set]; try rfl) (fun u hu hF => ?_) (fun v25 => ?_)
      · have h17_ : v23 = (.slice p_a L_a.length q_a) := hF.1
        have h18_ : v24 = (Iv (k : Int)) := hF.2.1
        clear hF
        refine doesG_un rfl ?_
        obtain rfl := h17_
        obtain rfl := h18_
        refine (does_indexSl (R := RV3) (i := (k : Int)) (xs := L_a) (e := el1) Try.underlying30 Try.sizeOf57 (ev rfl) (ev rfl) (Sl.ext (Sl.ext hv_a RV3.mono (Ext.gr X13 E20)) RV3.mono hu) (by omega) hel1).mono ?_; rintro v u' ⟨b, of, cs, hv, hc, hR, hu'⟩; subst hu'
        exact ⟨⟨b, of, cs, hv, hc, hR⟩, Ext.refl _⟩
      refine RW_d _ rfl (fun v => by dsimp only [List.set]; try rfl) (fun u hu hF => ?_) (fun v26 => ?_)
      · have h19_ : PtrR RV3 u v25 el1 := hF.1
        clear hF
        refine doesG_un rfl ?_
        obtain ⟨b19_, o19_, _, rfl, hc19_, ⟨r19_1, r19_3, r19_5, rfl, h19_2, h19_4, h19_6⟩⟩ := h19_
        refine (does_loadAgg (cs := [(Fl r19_1), (Fl r19_3), (Fl r19_5)]) (ev rfl) Try.isAgg57 Try.sizeOf57 hc19_ rfl).mono ?_; rintro _ _ ⟨rfl, rfl⟩
        exact ⟨⟨[(Fl r19_1), (Fl r19_3), (Fl r19_5)], rfl, ⟨r19_1, r19_3, r19_5, rfl, (by first | assumption | rfl), (by first | assumption | rfl), (by first | assumption | rfl)⟩⟩, Ext.refl _⟩
      refine RW_d _ rfl (fun v => by dsimp only [List.set]; try rfl) (fun u hu hF => ?_) (fun v27 => ?_)
      · clear hF
        refine doesG_un rfl ?_
        refine (does_move (u := (.slice p_b L_b.length q_b)) (ev rfl)).mono ?_; rintro _ _ ⟨rfl, rfl⟩
        exact ⟨rfl, Ext.refl _⟩
      refine RW_d _ rfl (fun v => by dsimp only [List.set]; try rfl) (fun u hu hF => ?_) (fun v28 => ?_)
      · clear hF
        refine doesG_un rfl ?_
        refine (does_move (u := (Iv (k : Int))) (ev rfl)).mono ?_; rintro _ _ ⟨rfl, rfl⟩
        exact ⟨rfl, Ext.refl _⟩
      refine RW_d _ rfl (fun v => by dsimp only [List.set]; try rfl) (fun u hu hF => ?_) (fun v29 => ?_)
      · have h21_ : v27 = (.slice p_b L_b.length q_b) := hF.1
        have h22_ : v28 = (Iv (k : Int)) := hF.2.1
        clear hF
        refine doesG_un rfl ?_
        obtain rfl := h21_
        obtain rfl := h22_
        refine (does_indexSl (R := RV3) (i := (k : Int)) (xs := L_b) (e := el2) Try.underlying30 Try.sizeOf57 (ev rfl) (ev rfl) (Sl.ext (Sl.ext hv_b RV3.mono (Ext.gr X13 E20)) RV3.mono hu) (by omega) hel2).mono ?_; rintro v u' ⟨b, of, cs, hv, hc, hR, hu'⟩; subst hu'
        exact ⟨⟨b, of, cs, hv, hc, hR⟩, Ext.refl _⟩
      refine RW_d _ rfl (fun v => by dsimp only [List.set]; try rfl) (fun u hu hF => ?_) (fun v30 => ?_)
      · have h23_ : PtrR RV3 u v29 el2 := hF.1
        clear hF
        refine doesG_un rfl ?_
        obtain ⟨b23_, o23_, _, rfl, hc23_, ⟨r23_1, r23_3, r23_5, rfl, h23_2, h23_4, h23_6⟩⟩ := h23_
        refine (does_loadAgg (cs := [(Fl r23_1), (Fl r23_3), (Fl r23_5)]) (ev rfl) Try.isAgg57 Try.sizeOf57 hc23_ rfl).mono ?_; rintro _ _ ⟨rfl, rfl⟩
        exact ⟨⟨[(Fl r23_1), (Fl r23_3), (Fl r23_5)], rfl, ⟨r23_1, r23_3, r23_5, rfl, (by first | assumption | rfl), (by first | assumption | rfl), (by first | assumption | rfl)⟩⟩, Ext.refl _⟩
      refine RW_d _ rfl (fun v => by dsimp only [List.set]; try rfl) (fun u hu hF => ?_) (fun v31 => ?_)
      · have h20_ : ∃ cs_1 : List Value, v26 = (.agg cs_1.toArray) ∧ RV3 w el1 cs_1 := hF.1
        have h24_ : ∃ cs_1 : List Value, v30 = (.agg cs_1.toArray) ∧ RV3 w el2 cs_1 := hF.2.1
        clear hF
        refine doesG_un rfl ?_
        obtain ⟨_, rfl, ⟨r20_1, r20_3, r20_5, rfl, h20_2, h20_4, h20_6⟩⟩ := h20_
        obtain ⟨_, rfl, ⟨r24_1, r24_3, r24_5, rfl, h24_2, h24_4, h24_6⟩⟩ := h24_
        refine (does_call (args := #[(.agg #[(Fl r20_1), (Fl r20_3), (Fl r20_5)]), (.agg #[(Fl r24_1), (Fl r24_3), (Fl r24_5)])]) cal52 (evs rfl) (c_laws_eqVector [(Fl r20_1), (Fl r20_3), (Fl r20_5)] el1 [(Fl r24_1), (Fl r24_3), (Fl r24_5)] el2 _ ⟨r20_1, r20_3, r20_5, rfl, (by assumption), (by assumption), (by assumption)⟩ ⟨r24_1, r24_3, r24_5, rfl, (by assumption), (by assumption), (by assumption)⟩)).mono ?_; rintro v u' ⟨hx, hv⟩
        exact ⟨hv.trans (by simp only [h20_2, h20_4, h20_6, h24_2, h24_4, h24_6]), hx⟩
      refine RW_d _ rfl (fun v => by dsimp only [List.set]; try rfl) (fun u hu hF => ?_) (fun v32 => ?_)
      · have h25_ : v31 = (Bo (sameV el1 el2)) := hF.1
        clear hF
        refine doesG_un rfl ?_
        obtain rfl := h25_
        refine (does_not (ev rfl)).mono ?_; rintro _ _ ⟨rfl, rfl⟩
        exact ⟨rfl, Ext.refl _⟩
      refine RW_fin ?_; intro w33 E34 hP35
      obtain ⟨⟨⟨⟨⟨⟨⟨⟨⟨⟨-, -⟩, -⟩, -⟩, -⟩, -⟩, -⟩, -⟩, -⟩, -⟩, q36⟩ := hP35
      have X37 := Ext.gr X22 E34
      have q36 : v32 = (Bo (!(sameV el1 el2))) := q36
      obtain rfl := q36
      show wpList _ _ _ _ (fr [_, _, _, _, _, _, _, _, _, _, _, _, _, _, _, _, _, _, _, _, _, _, _, _, _, _, _]) _
      refine wpList_nil (hK18 _ _ ?_)
      refine wp_cond_split (t := !(sameV el1 el2)) (ev rfl) (fun c38 => ?_) (fun c38 => ?_)
      · rw [Bool.not_eq_true'] at c38
        have c38' := c38
        refine wp_seq_k fun K39 hK39 => ?_
        refine wp_region_lit ?_
        refine q_is rfl rfl (does_assign (u := (Bo false)) (ev rfl)) (by dsimp only [List.set]; try rfl) ?_
        refine wpList_nil (hK39 _ _ ?_)
        refine wp_ret ?_
        dsimp only [Exit.then, Exit.inBlock]
        refine ret_val (v := (Bo false)) (res_T rfl (slot rfl)) X37 ?_
        try simp only [hel1, hel2] at c4 c16 c38
        have x40 : (sameX sameV L_a L_b) = false := by first | exact (sameX_len (by omega)) | exact (sameX_not (by omega) (by assumption) (by assumption) (by simp_all)) | exact (sameX_all (by omega) (by omega) hs)
        exact (by first | with_reducible rfl | rw [x40] | rfl)
      rw [Bool.not_eq_false'] at c38
      have c38' := c38
      refine wp_skip (hK17 _ _ ?_)
      refine wp_region_lit ?_
      refine q_is rfl rfl (does_move (u := (Iv (k : Int))) (ev rfl)) (by dsimp only [List.set]; try rfl) ?_
      refine q_is rfl rfl (does_iarith (p := (k : Int)) (q := 1) (r := (k : Int) + 1) (ev rfl) (ev rfl) (.inl ⟨rfl, (in_i64 (by omega) (by omega)).symm⟩)) (by dsimp only [List.set]; try rfl) ?_
      refine q_is rfl rfl (does_assign (u := (Iv ((k : Int) + 1))) (ev rfl)) (by dsimp only [List.set]; try rfl) ?_
      refine wpList_nil ?_
      refine ⟨k + 1, ⟨fun t => (([(.slice p_a L_a.length q_a), (.slice p_b L_b.length q_b), Ud, Ud, (u9 4), (Iv ((k : Int) + 1)), (.slice p_a L_a.length q_a), (Iv (L_a.length : Int)), (.slice p_b L_b.length q_b), (Iv (L_b.length : Int)), (Bo (icmp .neq (L_a.length : Int) (L_b.length : Int))), (Iv (k : Int)), (.slice p_a L_a.length q_a), (Iv (L_a.length : Int)), (Bo (icmp .lss (k : Int) (L_a.length : Int))), (Iv (k : Int)), (Iv ((k : Int) + 1)), v23, v24, v25, v26, v27, v28, v29, v30, v31, (Bo (!(sameV el1 el2)))] : List Value)[t]?).getD undef, ?_, (Ext.gr (Ext.gr E11 E20) E34), ?_⟩, ?_⟩
      · first | rfl | (simp only [Int.natCast_add, Int.natCast_one]; rfl)
      · exact ⟨by omega, SameXTo.step hs (by assumption) (by assumption) (by simp_all)⟩
      · omega
    have c16' := c16
    (try simp only [icmp, Bool.and_eq_true, Bool.or_eq_true, Bool.and_eq_false_iff, Bool.or_eq_false_iff, Bool.not_eq_true', Bool.not_eq_false', decide_eq_true_eq, decide_eq_false_iff_not, beq_iff_eq, bne_iff_ne, beq_eq_false_iff_ne, bne_eq_false_iff_eq] at c16')
    refine wp_exit ?_
    refine hK7 _ _ ?_
    refine wp_seq_k fun K41 hK41 => ?_
    refine wp_region_lit ?_
    refine q_is rfl rfl (does_assign (u := (Bo true)) (ev rfl)) (by dsimp only [List.set]; try rfl) ?_
    refine wpList_nil (hK41 _ _ ?_)
    refine wp_ret ?_
    refine ret_val (v := (Bo true)) (res_T rfl (slot rfl)) X13 ?_
    have x42 : (sameX sameV L_a L_b) = true := by first | exact (sameX_len (by omega)) | exact (sameX_not (by omega) (by assumption) (by assumption) (by simp_all)) | exact (sameX_all (by omega) (by omega) hs)
    exact (by first | with_reducible rfl | rw [x42] | rfl)

/- laws.eqInt64SS -/
theorem c_laws_eqInt64SS (a : Value) (L_a : List (List Int)) (b : Value) (L_b : List (List Int)) (w : World) (hv_a : Sl (RS RI 1) 1 w a L_a) (hv_b : Sl (RS RI 1) 1 w b L_b) : Gives Try.prog 32 #[a, b] w (fun v w' => v = (Bo (sameX eqIs L_a L_b))) := by
  have hlen_a := Sl.len hv_a; obtain ⟨p_a, q_a, rfl⟩ := Sl.shape hv_a
  have hlen_b := Sl.len hv_b; obtain ⟨p_b, q_b, rfl⟩ := Sl.shape hv_b
  refine enter [(.slice p_a L_a.length q_a), (.slice p_b L_b.length q_b), Ud, Ud, Ud, Ud, Ud, Ud, Ud, Ud, Ud, Ud, Ud, Ud, Ud, Ud, Ud, Ud, Ud, Ud, Ud, Ud, Ud, Ud, Ud, Ud, Ud] Try.func32 rfl Try.ntmps32 rfl ?_
  refine wp_seq_k fun K1 hK1 => ?_
  refine wp_region_lit ?_
  refine q_is rfl rfl (does_assign (u := (Bo false)) (ev rfl)) (by dsimp only [List.set]; try rfl) ?_
  refine wpList_nil (hK1 _ _ ?_)
  refine wp_seq_k fun K2 hK2 => ?_
  refine wp_seq_k fun K3 hK3 => ?_
  refine wp_region_lit ?_
  refine q_is rfl rfl (does_move (u := (.slice p_a L_a.length q_a)) (ev rfl)) (by dsimp only [List.set]; try rfl) ?_
  refine q_is rfl rfl (does_len_slice Try.underlying23 (ev rfl)) (by dsimp only [List.set]; try rfl) ?_
  refine q_is rfl rfl (does_move (u := (.slice p_b L_b.length q_b)) (ev rfl)) (by dsimp only [List.set]; try rfl) ?_
  refine q_is rfl rfl (does_len_slice Try.underlying23 (ev rfl)) (by dsimp only [List.set]; try rfl) ?_
  refine q_is rfl rfl (does_icmp (p := (L_a.length : Int)) (q := (L_b.length : Int)) (.inr (.inl rfl)) (ev rfl) (ev rfl)) (by dsimp only [List.set]; try rfl) ?_
  refine wpList_nil (hK3 _ _ ?_)
  refine wp_cond_split (t := icmp .neq (L_a.length : Int) (L_b.length : Int)) (ev rfl) (fun c4 => ?_) (fun c4 => ?_)
  · have c4' := c4
    (try simp only [icmp, Bool.and_eq_true, Bool.or_eq_true, Bool.and_eq_false_iff, Bool.or_eq_false_iff, Bool.not_eq_true', Bool.not_eq_false', decide_eq_true_eq, decide_eq_false_iff_not, beq_iff_eq, bne_iff_ne, beq_eq_false_iff_ne, bne_eq_false_iff_eq] at c4')
    refine wp_seq_k fun K5 hK5 => ?_
    refine wp_region_lit ?_
    refine q_is rfl rfl (does_assign (u := (Bo false)) (ev rfl)) (by dsimp only [List.set]; try rfl) ?_
    refine wpList_nil (hK5 _ _ ?_)
    refine wp_ret ?_
    dsimp only [Exit.then, Exit.inBlock]
    refine ret_val (v := (Bo false)) (res_T rfl (slot rfl)) (Ext.refl w) ?_
    have x6 : (sameX eqIs L_a L_b) = false := by first | exact (sameX_len (by omega)) | exact (sameX_not (by omega) (by assumption) (by assumption) (by show sameX eqI _ _ = _; assumption)) | exact (sameX_all (by omega) (by omega) hs)
    exact (by first | with_reducible rfl | rw [x6] | rfl)
  have c4' := c4
  (try simp only [icmp, Bool.and_eq_true, Bool.or_eq_true, Bool.and_eq_false_iff, Bool.or_eq_false_iff, Bool.not_eq_true', Bool.not_eq_false', decide_eq_true_eq, decide_eq_false_iff_not, beq_iff_eq, bne_iff_ne, beq_eq_false_iff_ne, bne_eq_false_iff_eq] at c4')
  refine wp_skip (hK2 _ _ ?_)
  refine wp_seq_k fun K7 hK7 => ?_
  refine wp_seq_k fun K8 hK8 => ?_
  refine wp_region_lit ?_
  refine q_is rfl rfl (does_assign (u := (Iv 0)) (ev rfl)) (by dsimp only [List.set]; try rfl) ?_
  refine wpList_nil (hK8 _ _ ?_)
  refine wp_block ?_
  refine loop_ghost (σ := Nat) (fun k a w' => ∃ u9 : Nat → Value, a = fr [(.slice p_a L_a.length q_a), (.slice p_b L_b.length q_b), Ud, Ud, (u9 4), (Iv (k : Int)), (.slice p_a L_a.length q_a), (Iv (L_a.length : Int)), (.slice p_b L_b.length q_b), (Iv (L_b.length : Int)), (Bo (icmp .neq (L_a.length : Int) (L_b.length : Int))), (u9 11), (u9 12), (u9 13), (u9 14), (u9 15), (u9 16), (u9 17), (u9 18), (u9 19), (u9 20), (u9 21), (u9 22), (u9 23), (u9 24), (u9 25), (u9 26)] ∧ Ext w w' ∧ (k ≤ L_a.length ∧ SameXTo eqIs L_a L_b k)) (fun k => L_a.length - k) 0 ?_ ?_
  · refine ⟨fun t => (([(.slice p_a L_a.length q_a), (.slice p_b L_b.length q_b), Ud, Ud, (Bo false), (Iv 0), (.slice p_a L_a.length q_a), (Iv (L_a.length : Int)), (.slice p_b L_b.length q_b), (Iv (L_b.length : Int)), (Bo (icmp .neq (L_a.length : Int) (L_b.length : Int))), Ud, Ud, Ud, Ud, Ud, Ud, Ud, Ud, Ud, Ud, Ud, Ud, Ud, Ud, Ud, Ud] : List Value)[t]?).getD undef, rfl, Ext.refl _, ?_⟩
    exact ⟨Nat.zero_le _, SameXTo.zero⟩
  · rintro k a w10 ⟨u9, rfl, E11, ⟨hk, hs⟩⟩
    have X13 := Ext.gr (Ext.refl w) E11
    refine wp_seq_k fun K14 hK14 => ?_
    refine wp_seq_k fun K15 hK15 => ?_
    refine wp_region_lit ?_
    refine q_is rfl rfl (does_move (u := (Iv (k : Int))) (ev rfl)) (by dsimp only [List.set]; try rfl) ?_
    refine q_is rfl rfl (does_move (u := (.slice p_a L_a.length q_a)) (ev rfl)) (by dsimp only [List.set]; try rfl) ?_
    refine q_is rfl rfl (does_len_slice Try.underlying23 (ev rfl)) (by dsimp only [List.set]; try rfl) ?_
    refine q_is rfl rfl (does_icmp (p := (k : Int)) (q := (L_a.length : Int)) (.inr (.inr (.inl rfl))) (ev rfl) (ev rfl)) (by dsimp only [List.set]; try rfl) ?_
    refine wpList_nil (hK15 _ _ ?_)
    refine wp_cond_split (t := icmp .lss (k : Int) (L_a.length : Int)) (ev rfl) (fun c16 => ?_) (fun c16 => ?_)
    · have c16' := c16
      (try simp only [icmp, Bool.and_eq_true, Bool.or_eq_true, Bool.and_eq_false_iff, Bool.or_eq_false_iff, Bool.not_eq_true', Bool.not_eq_false', decide_eq_true_eq, decide_eq_false_iff_not, beq_iff_eq, bne_iff_ne, beq_eq_false_iff_ne, bne_eq_false_iff_eq] at c16')
      refine wp_skip (hK14 _ _ ?_)
      refine wp_seq_k fun K17 hK17 => ?_
      refine wp_block ?_
      refine wp_seq_k fun K18 hK18 => ?_
      obtain ⟨el1, hel1⟩ : ∃ e, L_a[k]? = some e := ⟨_, List.getElem?_eq_getElem (by omega)⟩
      obtain ⟨el2, hel2⟩ : ∃ e, L_b[k]? = some e := ⟨_, List.getElem?_eq_getElem (by omega)⟩
      refine region_draw (
        [Fact.pure [] (fun v => v = (.slice p_a L_a.length q_a)),
    Fact.pure [] (fun v => v = (Iv (k : Int))),
    Fact.mem [17, 18] (fun v w' => PtrR (RS RI 1) w' v el1) (by intro v w1 w2 hx h; exact h.ext (RS.mono RI.mono) hx),
    Fact.mem [19] (fun v w' => ∃ y_1 : Value, v = y_1 ∧ Sl RI 1 w' y_1 el1) (by rintro v w1 w2 hx ⟨z1, rfl, k0⟩; exact ⟨_, rfl, (k0.ext RI.mono hx)⟩),
    Fact.pure [] (fun v => v = (.slice p_b L_b.length q_b)),
    Fact.pure [] (fun v => v = (Iv (k : Int))),
    Fact.mem [21, 22] (fun v w' => PtrR (RS RI 1) w' v el2) (by intro v w1 w2 hx h; exact h.ext (RS.mono RI.mono) hx),
    Fact.mem [23] (fun v w' => ∃ y_1 : Value, v = y_1 ∧ Sl RI 1 w' y_1 el2) (by rintro v w1 w2 hx ⟨z1, rfl, k0⟩; exact ⟨_, rfl, (k0.ext RI.mono hx)⟩),
    Fact.pure [20, 24] (fun v => v = (Bo (sameX eqI el1 el2))),
    Fact.pure [25] (fun v => v = (Bo (!(sameX eqI el1 el2))))]) mixed (by kernel_rfl) (by intro _ _ d _ _ h; cases d <;> exact h) ?_
      obtain ⟨w19, hw21⟩ : ∃ w', w' = World.drew w10 := ⟨_, rfl⟩; rw [← hw21]; have E20 : Ext w10 w19 := by rw [hw21]; exact Ext.draw _
      clear hw21
      have X22 := Ext.gr X13 E20
      refine RW_d _ rfl (fun v => by dsimp only [List.set]; try rfl) (fun u hu hF => ?_) (fun v23 => ?_)
      · clear hF
        refine doesG_un rfl ?_
        refine (does_move (u := (.slice p_a L_a.length q_a)) (ev rfl)).mono ?_; rintro _ _ ⟨rfl, rfl⟩
        exact ⟨rfl, Ext.refl _⟩
      refine RW_d _ rfl (fun v => by dsimp only [List.set]; try rfl) (fun u hu hF => ?_) (fun v24 => ?_)
      · clear hF
        refine doesG_un rfl ?_
        refine (does_move (u := (Iv (k : Int))) (ev rfl)).mono ?_; rintro _ _ ⟨rfl, rfl⟩
        exact ⟨rfl, Ext.refl _⟩
      refine RW_d _ rfl (fun v => by dsimp only [List.set]; try rfl) (fun u hu hF => ?_) (fun v25 => ?_)
      · have h17_ : v23 = (.slice p_a L_a.length q_a) := hF.1
        have h18_ : v24 = (Iv (k : Int)) := hF.2.1
        clear hF
        refine doesG_un rfl ?_
        obtain rfl := h17_
        obtain rfl := h18_
        refine (does_indexSl (R := (RS RI 1)) (i := (k : Int)) (xs := L_a) (e := el1) Try.underlying23 Try.sizeOf27 (ev rfl) (ev rfl) (Sl.ext (Sl.ext hv_a (RS.mono RI.mono) (Ext.gr X13 E20)) (RS.mono RI.mono) hu) (by omega) hel1).mono ?_; rintro v u' ⟨b, of, cs, hv, hc, hR, hu'⟩; subst hu'
        exact ⟨⟨b, of, cs, hv, hc, hR⟩, Ext.refl _⟩
      refine RW_d _ rfl (fun v => by dsimp only [List.set]; try rfl) (fun u hu hF => ?_) (fun v26 => ?_)
      · have h19_ : PtrR (RS RI 1) u v25 el1 := hF.1
        clear hF
        refine doesG_un rfl ?_
        obtain ⟨b19_, o19_, _, rfl, hc19_, ⟨y19_1, rfl, h19_2⟩⟩ := h19_
        have hh19_2 := h19_2; obtain ⟨p19_3, q19_4, rfl⟩ := Sl.shape h19_2
        refine (does_load (u := (.slice p19_3 el1.length q19_4)) (ev rfl) Try.isAgg27 (Cells.at hc19_ 0 rfl)).mono ?_; rintro _ _ ⟨rfl, rfl⟩
        exact ⟨⟨(.slice p19_3 el1.length q19_4), rfl, (by assumption)⟩, Ext.refl _⟩
      refine RW_d _ rfl (fun v => by dsimp only [List.set]; try rfl) (fun u hu hF => ?_) (fun v27 => ?_)
      · clear hF
        refine doesG_un rfl ?_
        refine (does_move (u := (.slice p_b L_b.length q_b)) (ev rfl)).mono ?_; rintro _ _ ⟨rfl, rfl⟩
        exact ⟨rfl, Ext.refl _⟩
      refine RW_d _ rfl (fun v => by dsimp only [List.set]; try rfl) (fun u hu hF => ?_) (fun v28 => ?_)
      · clear hF
        refine doesG_un rfl ?_
        refine (does_move (u := (Iv (k : Int))) (ev rfl)).mono ?_; rintro _ _ ⟨rfl, rfl⟩
        exact ⟨rfl, Ext.refl _⟩
      refine RW_d _ rfl (fun v => by dsimp only [List.set]; try rfl) (fun u hu hF => ?_) (fun v29 => ?_)
      · have h21_ : v27 = (.slice p_b L_b.length q_b) := hF.1
        have h22_ : v28 = (Iv (k : Int)) := hF.2.1
        clear hF
        refine doesG_un rfl ?_
        obtain rfl := h21_
        obtain rfl := h22_
        refine (does_indexSl (R := (RS RI 1)) (i := (k : Int)) (xs := L_b) (e := el2) Try.underlying23 Try.sizeOf27 (ev rfl) (ev rfl) (Sl.ext (Sl.ext hv_b (RS.mono RI.mono) (Ext.gr X13 E20)) (RS.mono RI.mono) hu) (by omega) hel2).mono ?_; rintro v u' ⟨b, of, cs, hv, hc, hR, hu'⟩; subst hu'
        exact ⟨⟨b, of, cs, hv, hc, hR⟩, Ext.refl _⟩
      refine RW_d _ rfl (fun v => by dsimp only [List.set]; try rfl) (fun u hu hF => ?_) (fun v30 => ?_)
      · have h23_ : PtrR (RS RI 1) u v29 el2 := hF.1
        clear hF
        refine doesG_un rfl ?_
        obtain ⟨b23_, o23_, _, rfl, hc23_, ⟨y23_1, rfl, h23_2⟩⟩ := h23_
        have hh23_2 := h23_2; obtain ⟨p23_3, q23_4, rfl⟩ := Sl.shape h23_2
        refine (does_load (u := (.slice p23_3 el2.length q23_4)) (ev rfl) Try.isAgg27 (Cells.at hc23_ 0 rfl)).mono ?_; rintro _ _ ⟨rfl, rfl⟩
        exact ⟨⟨(.slice p23_3 el2.length q23_4), rfl, (by assumption)⟩, Ext.refl _⟩
      refine RW_d _ rfl (fun v => by dsimp only [List.set]; try rfl) (fun u hu hF => ?_) (fun v31 => ?_)
      · have h20_ : ∃ y_1 : Value, v26 = y_1 ∧ Sl RI 1 u y_1 el1 := hF.1
        have h24_ : ∃ y_1 : Value, v30 = y_1 ∧ Sl RI 1 u y_1 el2 := hF.2.1
        clear hF
        refine doesG_un rfl ?_
        obtain ⟨y20_1, rfl, h20_2⟩ := h20_
        have hh20_2 := h20_2; obtain ⟨p20_3, q20_4, rfl⟩ := Sl.shape h20_2
        obtain ⟨y24_1, rfl, h24_2⟩ := h24_
        have hh24_2 := h24_2; obtain ⟨p24_3, q24_4, rfl⟩ := Sl.shape h24_2
        refine (does_call (args := #[(.slice p20_3 el1.length q20_4), (.slice p24_3 el2.length q24_4)]) cal11 (evs rfl) (c_laws_eqInt64S (.slice p20_3 el1.length q20_4) el1 (.slice p24_3 el2.length q24_4) el2 _ hh20_2 hh24_2)).mono ?_; rintro v u' ⟨hx, hv⟩
        exact ⟨hv, hx⟩
      refine RW_d _ rfl (fun v => by dsimp only [List.set]; try rfl) (fun u hu hF => ?_) (fun v32 => ?_)
      · have h25_ : v31 = (Bo (sameX eqI el1 el2)) := hF.1
        clear hF
        refine doesG_un rfl ?_
        obtain rfl := h25_
        refine (does_not (ev rfl)).mono ?_; rintro _ _ ⟨rfl, rfl⟩
        exact ⟨rfl, Ext.refl _⟩
      refine RW_fin ?_; intro w33 E34 hP35
      obtain ⟨⟨⟨⟨⟨⟨⟨⟨⟨⟨-, -⟩, -⟩, -⟩, -⟩, -⟩, -⟩, -⟩, -⟩, -⟩, q36⟩ := hP35
      have X37 := Ext.gr X22 E34
      have q36 : v32 = (Bo (!(sameX eqI el1 el2))) := q36
      obtain rfl := q36
      show wpList _ _ _ _ (fr [_, _, _, _, _, _, _, _, _, _, _, _, _, _, _, _, _, _, _, _, _, _, _, _, _, _, _]) _
      refine wpList_nil (hK18 _ _ ?_)
      refine wp_cond_split (t := !(sameX eqI el1 el2)) (ev rfl) (fun c38 => ?_) (fun c38 => ?_)
      · rw [Bool.not_eq_true'] at c38
        have c38' := c38
        refine wp_seq_k fun K39 hK39 => ?_
        refine wp_region_lit ?_
        refine q_is rfl rfl (does_assign (u := (Bo false)) (ev rfl)) (by dsimp only [List.set]; try rfl) ?_
        refine wpList_nil (hK39 _ _ ?_)
        refine wp_ret ?_
        dsimp only [Exit.then, Exit.inBlock]
        refine ret_val (v := (Bo false)) (res_T rfl (slot rfl)) X37 ?_
        try simp only [hel1, hel2] at c4 c16 c38
        have x40 : (sameX eqIs L_a L_b) = false := by first | exact (sameX_len (by omega)) | exact (sameX_not (by omega) (by assumption) (by assumption) (by show sameX eqI _ _ = _; assumption)) | exact (sameX_all (by omega) (by omega) hs)
        exact (by first | with_reducible rfl | rw [x40] | rfl)
      rw [Bool.not_eq_false'] at c38
      have c38' := c38
      refine wp_skip (hK17 _ _ ?_)
      refine wp_region_lit ?_
      refine q_is rfl rfl (does_move (u := (Iv (k : Int))) (ev rfl)) (by dsimp only [List.set]; try rfl) ?_
      refine q_is rfl rfl (does_iarith (p := (k : Int)) (q := 1) (r := (k : Int) + 1) (ev rfl) (ev rfl) (.inl ⟨rfl, (in_i64 (by omega) (by omega)).symm⟩)) (by dsimp only [List.set]; try rfl) ?_
      refine q_is rfl rfl (does_assign (u := (Iv ((k : Int) + 1))) (ev rfl)) (by dsimp only [List.set]; try rfl) ?_
      refine wpList_nil ?_
      refine ⟨k + 1, ⟨fun t => (([(.slice p_a L_a.length q_a), (.slice p_b L_b.length q_b), Ud, Ud, (u9 4), (Iv ((k : Int) + 1)), (.slice p_a L_a.length q_a), (Iv (L_a.length : Int)), (.slice p_b L_b.length q_b), (Iv (L_b.length : Int)), (Bo (icmp .neq (L_a.length : Int) (L_b.length : Int))), (Iv (k : Int)), (.slice p_a L_a.length q_a), (Iv (L_a.length : Int)), (Bo (icmp .lss (k : Int) (L_a.length : Int))), (Iv (k : Int)), (Iv ((k : Int) + 1)), v23, v24, v25, v26, v27, v28, v29, v30, v31, (Bo (!(sameX eqI el1 el2)))] : List Value)[t]?).getD undef, ?_, (Ext.gr (Ext.gr E11 E20) E34), ?_⟩, ?_⟩
      · first | rfl | (simp only [Int.natCast_add, Int.natCast_one]; rfl)
      · exact ⟨by omega, SameXTo.step hs (by assumption) (by assumption) (by show sameX eqI _ _ = _; assumption)⟩
      · omega
    have c16' := c16
    (try simp only [icmp, Bool.and_eq_true, Bool.or_eq_true, Bool.and_eq_false_iff, Bool.or_eq_false_iff, Bool.not_eq_true', Bool.not_eq_false', decide_eq_true_eq, decide_eq_false_iff_not, beq_iff_eq, bne_iff_ne, beq_eq_false_iff_ne, bne_eq_false_iff_eq] at c16')
    refine wp_exit ?_
    refine hK7 _ _ ?_
    refine wp_seq_k fun K41 hK41 => ?_
    refine wp_region_lit ?_
    refine q_is rfl rfl (does_assign (u := (Bo true)) (ev rfl)) (by dsimp only [List.set]; try rfl) ?_
    refine wpList_nil (hK41 _ _ ?_)
    refine wp_ret ?_
    refine ret_val (v := (Bo true)) (res_T rfl (slot rfl)) X13 ?_
    have x42 : (sameX eqIs L_a L_b) = true := by first | exact (sameX_len (by omega)) | exact (sameX_not (by omega) (by assumption) (by assumption) (by show sameX eqI _ _ = _; assumption)) | exact (sameX_all (by omega) (by omega) hs)
    exact (by first | with_reducible rfl | rw [x42] | rfl)

/- laws.eqMesh -/
theorem c_laws_eqMesh (a : List Value) (A_a : MeshT) (b : List Value) (A_b : MeshT) (w : World) (hv_a : RMeshT w A_a a) (hv_b : RMeshT w A_b b) : Gives Try.prog 12 #[(.agg a.toArray), (.agg b.toArray)] w (fun v w' => v = (Bo (sameMesh A_a A_b))) := by
  obtain ⟨y1, y3, rfl, h2, h4⟩ := hv_a
  obtain ⟨y5, y7, rfl, h6, h8⟩ := hv_b
  have hs11 := h2; have hs11l := Sl.len h2; obtain ⟨p9, q10, rfl⟩ := Sl.shape h2
  have hs14 := h4; have hs14l := Sl.len h4; obtain ⟨p12, q13, rfl⟩ := Sl.shape h4
  have hs17 := h6; have hs17l := Sl.len h6; obtain ⟨p15, q16, rfl⟩ := Sl.shape h6
  have hs20 := h8; have hs20l := Sl.len h8; obtain ⟨p18, q19, rfl⟩ := Sl.shape h8
  refine enter [(.agg #[(.slice p9 A_a.places.length q10), (.slice p12 A_a.tris.length q13)]), (.agg #[(.slice p15 A_b.places.length q16), (.slice p18 A_b.tris.length q19)]), Ud, Ud, Ud, Ud, Ud, Ud, Ud, Ud, Ud, Ud, Ud, Ud, Ud, Ud, Ud] Try.func12 rfl Try.ntmps12 rfl ?_
  refine wp_seq_k fun K21 hK21 => ?_
  refine wp_region_lit ?_
  refine seqd rfl rfl (does_box (u := (.agg #[(.slice p9 A_a.places.length q10), (.slice p12 A_a.tris.length q13)])) (ev rfl)) ?_; rintro _ w26 ⟨b22, rfl, hb23, hB24, E25⟩
  have g27 : w.heap.size ≤ b22 := Nat.le_trans (Below.size (Ext.refl w)) hb23
  change Blk _ _ [(.slice p9 A_a.places.length q10), (.slice p12 A_a.tris.length q13)] at hB24
  have X28 := Ext.gr (Ext.refl w) E25
  show wpList _ _ _ _ (fr [(.agg #[(.slice p9 A_a.places.length q10), (.slice p12 A_a.tris.length q13)]), (.agg #[(.slice p15 A_b.places.length q16), (.slice p18 A_b.tris.length q19)]), (Pt b22 0), Ud, Ud, Ud, Ud, Ud, Ud, Ud, Ud, Ud, Ud, Ud, Ud, Ud, Ud]) _
  refine seqd rfl rfl (does_box (u := (.agg #[(.slice p15 A_b.places.length q16), (.slice p18 A_b.tris.length q19)])) (ev rfl)) ?_; rintro _ w33 ⟨b29, rfl, hb30, hB31, E32⟩
  have n34 : b22 < b29 := Nat.lt_of_lt_of_le (Blk.lt hB24) hb30
  have g35 : w.heap.size ≤ b29 := Nat.le_trans (Below.size X28) hb30
  change Blk _ _ [(.slice p15 A_b.places.length q16), (.slice p18 A_b.tris.length q19)] at hB31
  have X36 := Ext.gr X28 E32
  show wpList _ _ _ _ (fr [(.agg #[(.slice p9 A_a.places.length q10), (.slice p12 A_a.tris.length q13)]), (.agg #[(.slice p15 A_b.places.length q16), (.slice p18 A_b.tris.length q19)]), (Pt b22 0), (Pt b29 0), Ud, Ud, Ud, Ud, Ud, Ud, Ud, Ud, Ud, Ud, Ud, Ud, Ud]) _
  refine q_is (l' := [(.agg #[(.slice p9 A_a.places.length q10), (.slice p12 A_a.tris.length q13)]), (.agg #[(.slice p15 A_b.places.length q16), (.slice p18 A_b.tris.length q19)]), (Pt b22 0), (Pt b29 0), (Bo false), Ud, Ud, Ud, Ud, Ud, Ud, Ud, Ud, Ud, Ud, Ud, Ud]) rfl rfl (does_assign (u := (Bo false)) (ev rfl)) rfl ?_
  refine wpList_nil (hK21 _ _ ?_)
  refine wp_seq_k fun K37 hK37 => ?_
  refine wp_seq_k fun K38 hK38 => ?_
  refine wp_region_lit ?_
  refine q_is (l' := [(.agg #[(.slice p9 A_a.places.length q10), (.slice p12 A_a.tris.length q13)]), (.agg #[(.slice p15 A_b.places.length q16), (.slice p18 A_b.tris.length q19)]), (Pt b22 0), (Pt b29 0), (Bo false), (Pt b22 0), Ud, Ud, Ud, Ud, Ud, Ud, Ud, Ud, Ud, Ud, Ud]) rfl rfl (does_fieldAddr (ev rfl) fa32_0) rfl ?_
  refine q_is (l' := [(.agg #[(.slice p9 A_a.places.length q10), (.slice p12 A_a.tris.length q13)]), (.agg #[(.slice p15 A_b.places.length q16), (.slice p18 A_b.tris.length q19)]), (Pt b22 0), (Pt b29 0), (Bo false), (Pt b22 0), (.slice p9 A_a.places.length q10), Ud, Ud, Ud, Ud, Ud, Ud, Ud, Ud, Ud, Ud]) rfl rfl (does_load (u := (.slice p9 A_a.places.length q10)) (ev rfl) Try.isAgg30 (Cells.at (Blk.cells (hB24.ext E32)) 0 rfl)) rfl ?_
  refine q_is (l' := [(.agg #[(.slice p9 A_a.places.length q10), (.slice p12 A_a.tris.length q13)]), (.agg #[(.slice p15 A_b.places.length q16), (.slice p18 A_b.tris.length q19)]), (Pt b22 0), (Pt b29 0), (Bo false), (Pt b22 0), (.slice p9 A_a.places.length q10), (Pt b29 0), Ud, Ud, Ud, Ud, Ud, Ud, Ud, Ud, Ud]) rfl rfl (does_fieldAddr (ev rfl) fa32_0) rfl ?_
  refine q_is (l' := [(.agg #[(.slice p9 A_a.places.length q10), (.slice p12 A_a.tris.length q13)]), (.agg #[(.slice p15 A_b.places.length q16), (.slice p18 A_b.tris.length q19)]), (Pt b22 0), (Pt b29 0), (Bo false), (Pt b22 0), (.slice p9 A_a.places.length q10), (Pt b29 0), (.slice p15 A_b.places.length q16), Ud, Ud, Ud, Ud, Ud, Ud, Ud, Ud]) rfl rfl (does_load (u := (.slice p15 A_b.places.length q16)) (ev rfl) Try.isAgg30 (Cells.at (Blk.cells hB31) 0 rfl)) rfl ?_
  refine seqd rfl rfl (does_call (args := #[(.slice p9 A_a.places.length q10), (.slice p15 A_b.places.length q16)]) cal31 (evs rfl) (c_laws_eqVectorS (.slice p9 A_a.places.length q10) A_a.places (.slice p15 A_b.places.length q16) A_b.places _ (Sl.ext hs11 RV3.mono X36) (Sl.ext hs17 RV3.mono X36))) ?_; rintro _ w40 ⟨E39, rfl⟩
  have X41 := Ext.gr X36 E39
  show wpList _ _ _ _ (fr [(.agg #[(.slice p9 A_a.places.length q10), (.slice p12 A_a.tris.length q13)]), (.agg #[(.slice p15 A_b.places.length q16), (.slice p18 A_b.tris.length q19)]), (Pt b22 0), (Pt b29 0), (Bo false), (Pt b22 0), (.slice p9 A_a.places.length q10), (Pt b29 0), (.slice p15 A_b.places.length q16), (Bo (sameX sameV A_a.places A_b.places)), Ud, Ud, Ud, Ud, Ud, Ud, Ud]) _
  refine q_is (l' := [(.agg #[(.slice p9 A_a.places.length q10), (.slice p12 A_a.tris.length q13)]), (.agg #[(.slice p15 A_b.places.length q16), (.slice p18 A_b.tris.length q19)]), (Pt b22 0), (Pt b29 0), (Bo false), (Pt b22 0), (.slice p9 A_a.places.length q10), (Pt b29 0), (.slice p15 A_b.places.length q16), (Bo (sameX sameV A_a.places A_b.places)), (Bo (!(sameX sameV A_a.places A_b.places))), Ud, Ud, Ud, Ud, Ud, Ud]) rfl rfl (does_not (ev rfl)) rfl ?_
  refine wpList_nil (hK38 _ _ ?_)
  refine wp_cond_split (t := !(sameX sameV A_a.places A_b.places)) (ev rfl) (fun c42 => ?_) (fun c42 => ?_)
  · rw [Bool.not_eq_true'] at c42
    have c42' := c42
    refine wp_seq_k fun K43 hK43 => ?_
    refine wp_region_lit ?_
    refine q_is (l' := [(.agg #[(.slice p9 A_a.places.length q10), (.slice p12 A_a.tris.length q13)]), (.agg #[(.slice p15 A_b.places.length q16), (.slice p18 A_b.tris.length q19)]), (Pt b22 0), (Pt b29 0), (Bo false), (Pt b22 0), (.slice p9 A_a.places.length q10), (Pt b29 0), (.slice p15 A_b.places.length q16), (Bo (sameX sameV A_a.places A_b.places)), (Bo (!(sameX sameV A_a.places A_b.places))), Ud, Ud, Ud, Ud, Ud, Ud]) rfl rfl (does_assign (u := (Bo false)) (ev rfl)) rfl ?_
    refine wpList_nil (hK43 _ _ ?_)
    refine wp_ret ?_
    dsimp only [Exit.then, Exit.inBlock]
    refine ret_val (v := (Bo false)) (res_T rfl (slot rfl)) X41 ?_
    have x44 : (sameMesh A_a A_b) = false := by first | with_reducible rfl | (simp only [sameMesh, c42]; done) | (simp [sameMesh, c42]; done) | (revert c42; simp +contextual [sameMesh]; done) | (rcases c42' with hh | hh <;> simp only [hh, sameMesh, c42]; done) | (rcases c42' with hh | hh <;> simp_all [sameMesh]; done) | (rcases c42' with hh | hh | hh <;> simp_all [sameMesh]; done) | (rcases c42' with hh | hh | hh | hh <;> simp_all [sameMesh]; done) | (simp_all [sameMesh]; done) | rfl
    exact (by first | with_reducible rfl | rw [x44] | rfl)
  rw [Bool.not_eq_false'] at c42
  have c42' := c42
  refine wp_skip (hK37 _ _ ?_)
  refine wp_seq_k fun K45 hK45 => ?_
  refine wp_seq_k fun K46 hK46 => ?_
  refine wp_region_lit ?_
  refine q_is (l' := [(.agg #[(.slice p9 A_a.places.length q10), (.slice p12 A_a.tris.length q13)]), (.agg #[(.slice p15 A_b.places.length q16), (.slice p18 A_b.tris.length q19)]), (Pt b22 0), (Pt b29 0), (Bo false), (Pt b22 0), (.slice p9 A_a.places.length q10), (Pt b29 0), (.slice p15 A_b.places.length q16), (Bo (sameX sameV A_a.places A_b.places)), (Bo (!(sameX sameV A_a.places A_b.places))), (Pt b22 1), Ud, Ud, Ud, Ud, Ud]) rfl rfl (does_fieldAddr (ev rfl) fa32_1) rfl ?_
  refine q_is (l' := [(.agg #[(.slice p9 A_a.places.length q10), (.slice p12 A_a.tris.length q13)]), (.agg #[(.slice p15 A_b.places.length q16), (.slice p18 A_b.tris.length q19)]), (Pt b22 0), (Pt b29 0), (Bo false), (Pt b22 0), (.slice p9 A_a.places.length q10), (Pt b29 0), (.slice p15 A_b.places.length q16), (Bo (sameX sameV A_a.places A_b.places)), (Bo (!(sameX sameV A_a.places A_b.places))), (Pt b22 1), (.slice p12 A_a.tris.length q13), Ud, Ud, Ud, Ud]) rfl rfl (does_load (u := (.slice p12 A_a.tris.length q13)) (ev rfl) Try.isAgg23 (Cells.at (Blk.cells ((hB24.ext E32).ext E39)) 1 rfl)) rfl ?_
  refine q_is (l' := [(.agg #[(.slice p9 A_a.places.length q10), (.slice p12 A_a.tris.length q13)]), (.agg #[(.slice p15 A_b.places.length q16), (.slice p18 A_b.tris.length q19)]), (Pt b22 0), (Pt b29 0), (Bo false), (Pt b22 0), (.slice p9 A_a.places.length q10), (Pt b29 0), (.slice p15 A_b.places.length q16), (Bo (sameX sameV A_a.places A_b.places)), (Bo (!(sameX sameV A_a.places A_b.places))), (Pt b22 1), (.slice p12 A_a.tris.length q13), (Pt b29 1), Ud, Ud, Ud]) rfl rfl (does_fieldAddr (ev rfl) fa32_1) rfl ?_
  refine q_is (l' := [(.agg #[(.slice p9 A_a.places.length q10), (.slice p12 A_a.tris.length q13)]), (.agg #[(.slice p15 A_b.places.length q16), (.slice p18 A_b.tris.length q19)]), (Pt b22 0), (Pt b29 0), (Bo false), (Pt b22 0), (.slice p9 A_a.places.length q10), (Pt b29 0), (.slice p15 A_b.places.length q16), (Bo (sameX sameV A_a.places A_b.places)), (Bo (!(sameX sameV A_a.places A_b.places))), (Pt b22 1), (.slice p12 A_a.tris.length q13), (Pt b29 1), (.slice p18 A_b.tris.length q19), Ud, Ud]) rfl rfl (does_load (u := (.slice p18 A_b.tris.length q19)) (ev rfl) Try.isAgg23 (Cells.at (Blk.cells (hB31.ext E39)) 1 rfl)) rfl ?_
  refine seqd rfl rfl (does_call (args := #[(.slice p12 A_a.tris.length q13), (.slice p18 A_b.tris.length q19)]) cal32 (evs rfl) (c_laws_eqInt64SS (.slice p12 A_a.tris.length q13) A_a.tris (.slice p18 A_b.tris.length q19) A_b.tris _ (Sl.ext hs14 (RS.mono RI.mono) X41) (Sl.ext hs20 (RS.mono RI.mono) X41))) ?_; rintro _ w48 ⟨E47, rfl⟩
  have X49 := Ext.gr X41 E47
  show wpList _ _ _ _ (fr [(.agg #[(.slice p9 A_a.places.length q10), (.slice p12 A_a.tris.length q13)]), (.agg #[(.slice p15 A_b.places.length q16), (.slice p18 A_b.tris.length q19)]), (Pt b22 0), (Pt b29 0), (Bo false), (Pt b22 0), (.slice p9 A_a.places.length q10), (Pt b29 0), (.slice p15 A_b.places.length q16), (Bo (sameX sameV A_a.places A_b.places)), (Bo (!(sameX sameV A_a.places A_b.places))), (Pt b22 1), (.slice p12 A_a.tris.length q13), (Pt b29 1), (.slice p18 A_b.tris.length q19), (Bo (sameX eqIs A_a.tris A_b.tris)), Ud]) _
  refine q_is (l' := [(.agg #[(.slice p9 A_a.places.length q10), (.slice p12 A_a.tris.length q13)]), (.agg #[(.slice p15 A_b.places.length q16), (.slice p18 A_b.tris.length q19)]), (Pt b22 0), (Pt b29 0), (Bo false), (Pt b22 0), (.slice p9 A_a.places.length q10), (Pt b29 0), (.slice p15 A_b.places.length q16), (Bo (sameX sameV A_a.places A_b.places)), (Bo (!(sameX sameV A_a.places A_b.places))), (Pt b22 1), (.slice p12 A_a.tris.length q13), (Pt b29 1), (.slice p18 A_b.tris.length q19), (Bo (sameX eqIs A_a.tris A_b.tris)), (Bo (!(sameX eqIs A_a.tris A_b.tris)))]) rfl rfl (does_not (ev rfl)) rfl ?_
  refine wpList_nil (hK46 _ _ ?_)
  refine wp_cond_split (t := !(sameX eqIs A_a.tris A_b.tris)) (ev rfl) (fun c50 => ?_) (fun c50 => ?_)
  · rw [Bool.not_eq_true'] at c50
    have c50' := c50
    refine wp_seq_k fun K51 hK51 => ?_
    refine wp_region_lit ?_
    refine q_is (l' := [(.agg #[(.slice p9 A_a.places.length q10), (.slice p12 A_a.tris.length q13)]), (.agg #[(.slice p15 A_b.places.length q16), (.slice p18 A_b.tris.length q19)]), (Pt b22 0), (Pt b29 0), (Bo false), (Pt b22 0), (.slice p9 A_a.places.length q10), (Pt b29 0), (.slice p15 A_b.places.length q16), (Bo (sameX sameV A_a.places A_b.places)), (Bo (!(sameX sameV A_a.places A_b.places))), (Pt b22 1), (.slice p12 A_a.tris.length q13), (Pt b29 1), (.slice p18 A_b.tris.length q19), (Bo (sameX eqIs A_a.tris A_b.tris)), (Bo (!(sameX eqIs A_a.tris A_b.tris)))]) rfl rfl (does_assign (u := (Bo false)) (ev rfl)) rfl ?_
    refine wpList_nil (hK51 _ _ ?_)
    refine wp_ret ?_
    dsimp only [Exit.then, Exit.inBlock]
    refine ret_val (v := (Bo false)) (res_T rfl (slot rfl)) X49 ?_
    have x52 : (sameMesh A_a A_b) = false := by first | with_reducible rfl | (simp only [sameMesh, c42, c50]; done) | (simp [sameMesh, c42, c50]; done) | (revert c42 c50; simp +contextual [sameMesh]; done) | (rcases c42' with hh | hh <;> simp only [hh, sameMesh, c42, c50]; done) | (rcases c50' with hh | hh <;> simp only [hh, sameMesh, c42, c50]; done) | (rcases c50' with hh | hh <;> simp_all [sameMesh]; done) | (rcases c50' with hh | hh | hh <;> simp_all [sameMesh]; done) | (rcases c50' with hh | hh | hh | hh <;> simp_all [sameMesh]; done) | (simp_all [sameMesh]; done) | rfl
    exact (by first | with_reducible rfl | rw [x52] | rfl)
  rw [Bool.not_eq_false'] at c50
  have c50' := c50
  refine wp_skip (hK45 _ _ ?_)
  refine wp_seq_k fun K53 hK53 => ?_
  refine wp_region_lit ?_
  refine q_is (l' := [(.agg #[(.slice p9 A_a.places.length q10), (.slice p12 A_a.tris.length q13)]), (.agg #[(.slice p15 A_b.places.length q16), (.slice p18 A_b.tris.length q19)]), (Pt b22 0), (Pt b29 0), (Bo true), (Pt b22 0), (.slice p9 A_a.places.length q10), (Pt b29 0), (.slice p15 A_b.places.length q16), (Bo (sameX sameV A_a.places A_b.places)), (Bo (!(sameX sameV A_a.places A_b.places))), (Pt b22 1), (.slice p12 A_a.tris.length q13), (Pt b29 1), (.slice p18 A_b.tris.length q19), (Bo (sameX eqIs A_a.tris A_b.tris)), (Bo (!(sameX eqIs A_a.tris A_b.tris)))]) rfl rfl (does_assign (u := (Bo true)) (ev rfl)) rfl ?_
  refine wpList_nil (hK53 _ _ ?_)
  refine wp_ret ?_
  refine ret_val (v := (Bo true)) (res_T rfl (slot rfl)) X49 ?_
  have x54 : (sameMesh A_a A_b) = true := by first | with_reducible rfl | (simp only [sameMesh, c42, c50]; done) | (simp [sameMesh, c42, c50]; done) | (revert c42 c50; simp +contextual [sameMesh]; done) | (rcases c42' with hh | hh <;> simp only [hh, sameMesh, c42, c50]; done) | (rcases c50' with hh | hh <;> simp only [hh, sameMesh, c42, c50]; done) | (rcases c50' with hh | hh <;> simp_all [sameMesh]; done) | (rcases c50' with hh | hh | hh <;> simp_all [sameMesh]; done) | (rcases c50' with hh | hh | hh | hh <;> simp_all [sameMesh]; done) | (simp_all [sameMesh]; done) | rfl
  exact (by first | with_reducible rfl | rw [x54] | rfl)

theorem c_laws_markVectorS_nil (k : Int) (w : World) : Gives Try.prog 33 #[.slice none 0 0, Iv k] w (fun v _ => v = Iv k) := by
  refine enter [(.slice none 0 0), (Iv k), Ud, Ud, Ud, Ud, Ud, Ud, Ud, Ud, Ud, Ud, Ud, Ud, Ud, Ud, Ud, Ud, Ud, Ud, Ud, Ud, Ud, Ud, Ud, Ud, Ud, Ud, Ud, Ud, Ud, Ud, Ud, Ud, Ud, Ud, Ud] Try.func33 rfl Try.ntmps33 rfl ?_
  refine wp_seq_k fun K1 hK1 => ?_
  refine wp_region_lit ?_
  refine q_is rfl rfl (does_assign (u := (Iv 0)) (ev rfl)) (by dsimp only [List.set]; try rfl) ?_
  refine wpList_nil (hK1 _ _ ?_)
  refine wp_seq_k fun K2 hK2 => ?_
  refine wp_seq_k fun K3 hK3 => ?_
  refine wp_region_lit ?_
  refine q_is rfl rfl (does_assign (u := (Iv 0)) (ev rfl)) (by dsimp only [List.set]; try rfl) ?_
  refine wpList_nil (hK3 _ _ ?_)
  refine wp_block ?_
  refine loop_unroll 1 ?_
  refine un_step ?_
  refine wp_seq_k fun K4 hK4 => ?_
  refine wp_seq_k fun K5 hK5 => ?_
  refine wp_region_lit ?_
  refine q_is rfl rfl (does_move (u := (Iv 0)) (ev rfl)) (by dsimp only [List.set]; try rfl) ?_
  refine q_is rfl rfl (does_move (u := (.slice none 0 0)) (ev rfl)) (by dsimp only [List.set]; try rfl) ?_
  refine q_is rfl rfl (does_len_slice Try.underlying30 (ev rfl)) (by dsimp only [List.set]; try rfl) ?_
  refine q_is rfl rfl (does_icmp (p := 0) (q := 0) (.inr (.inr (.inl rfl))) (ev rfl) (ev rfl)) (by dsimp only [List.set]; try rfl) ?_
  refine wpList_nil (hK5 _ _ ?_)
  refine wp_cond_false (ev rfl) ?_
  refine wp_exit ?_
  refine hK2 _ _ ?_
  refine wp_seq_k fun K6 hK6 => ?_
  refine wp_region_lit ?_
  refine q_is rfl rfl (does_move (u := (Iv k)) (ev rfl)) (by dsimp only [List.set]; try rfl) ?_
  refine q_is rfl rfl (does_assign (u := (Iv k)) (ev rfl)) (by dsimp only [List.set]; try rfl) ?_
  refine wpList_nil (hK6 _ _ ?_)
  refine wp_ret ?_
  refine ret_val (v := (Iv k)) (res_T rfl (slot rfl)) (Ext.refl w) ?_
  have x7 : (k : Int) = k := by first | with_reducible rfl | (simp only []; done) | (simp []; done) | rfl
  exact (by first | with_reducible rfl | rw [x7] | rfl)

theorem c_laws_markVectorS_blk (g N n cap : Nat) (k : Int) (w : World) (hM : Mk true k w g N 0) (hn : n * 3 ≤ N) (h0 : 0 ≤ k) (h1 : k + (n : Int) * 3 ≤ 4611686018427387904) : GivesK [g] Try.prog 33 #[.slice (some ⟨g, 0, none⟩) n cap, Iv k] w (fun v w' => v = Iv (k + (n : Int) * 3) ∧ Mk true k w' g N (n * 3)) := by
  refine enterK [(.slice (some ⟨g, 0, none⟩) n cap), (Iv k), Ud, Ud, Ud, Ud, Ud, Ud, Ud, Ud, Ud, Ud, Ud, Ud, Ud, Ud, Ud, Ud, Ud, Ud, Ud, Ud, Ud, Ud, Ud, Ud, Ud, Ud, Ud, Ud, Ud, Ud, Ud, Ud, Ud, Ud, Ud] Try.func33 rfl Try.ntmps33 rfl ?_
  refine wp_seq_k fun K1 hK1 => ?_
  refine wp_region_lit ?_
  refine q_is rfl rfl (does_assign (u := (Iv 0)) (ev rfl)) (by dsimp only [List.set]; try rfl) ?_
  refine wpList_nil (hK1 _ _ ?_)
  refine wp_seq_k fun K2 hK2 => ?_
  refine wp_seq_k fun K3 hK3 => ?_
  refine wp_region_lit ?_
  refine q_is rfl rfl (does_assign (u := (Iv 0)) (ev rfl)) (by dsimp only [List.set]; try rfl) ?_
  refine wpList_nil (hK3 _ _ ?_)
  refine wp_block ?_
  refine loop_ghost (σ := Nat × Int) (fun s a w' => ∃ u4 : Nat → Value, a = fr [(.slice (some ⟨g, 0, none⟩) n cap), (Iv s.2), Ud, Ud, (Iv 0), (Iv (s.1 : Int)), (u4 6), (u4 7), (u4 8), (u4 9), (u4 10), (u4 11), (u4 12), (u4 13), (u4 14), (u4 15), (u4 16), (u4 17), (u4 18), (u4 19), (u4 20), (u4 21), (u4 22), (u4 23), (u4 24), (u4 25), (u4 26), (u4 27), (u4 28), (u4 29), (u4 30), (u4 31), (u4 32), (u4 33), (u4 34), (u4 35), Ud] ∧ KpL [g] w w' ∧ Mk true k w' g N (s.1 * 3) ∧ (s.1 ≤ n ∧ s.2 = k + (s.1 : Int) * 3)) (fun s => n - s.1) (0, k) ?_ ?_
  · refine ⟨fun t => (([(.slice (some ⟨g, 0, none⟩) n cap), (Iv k), Ud, Ud, (Iv 0), (Iv 0), Ud, Ud, Ud, Ud, Ud, Ud, Ud, Ud, Ud, Ud, Ud, Ud, Ud, Ud, Ud, Ud, Ud, Ud, Ud, Ud, Ud, Ud, Ud, Ud, Ud, Ud, Ud, Ud, Ud, Ud, Ud] : List Value)[t]?).getD undef, rfl, KpL.refl _ _, (Mk.cast hM (by simp)), ?_⟩
    exact ⟨Nat.zero_le _, by simp⟩
  · rintro s a w5 ⟨u4, rfl, E6, hF7, ⟨hk, hn2⟩⟩
    have X8 := KpL.more (KpL.refl [g] w) E6 (allS (.inl (by simp)) all0)
    refine wp_seq_k fun K9 hK9 => ?_
    refine wp_seq_k fun K10 hK10 => ?_
    refine wp_region_lit ?_
    refine q_is rfl rfl (does_move (u := (Iv (s.1 : Int))) (ev rfl)) (by dsimp only [List.set]; try rfl) ?_
    refine q_is rfl rfl (does_move (u := (.slice (some ⟨g, 0, none⟩) n cap)) (ev rfl)) (by dsimp only [List.set]; try rfl) ?_
    refine q_is rfl rfl (does_len_slice Try.underlying30 (ev rfl)) (by dsimp only [List.set]; try rfl) ?_
    refine q_is rfl rfl (does_icmp (p := (s.1 : Int)) (q := (n : Int)) (.inr (.inr (.inl rfl))) (ev rfl) (ev rfl)) (by dsimp only [List.set]; try rfl) ?_
    refine wpList_nil (hK10 _ _ ?_)
    refine wp_cond_split (t := icmp .lss (s.1 : Int) (n : Int)) (ev rfl) (fun c11 => ?_) (fun c11 => ?_)
    · have c11' := c11
      (try simp only [icmp, Bool.and_eq_true, Bool.or_eq_true, Bool.and_eq_false_iff, Bool.or_eq_false_iff, Bool.not_eq_true', Bool.not_eq_false', decide_eq_true_eq, decide_eq_false_iff_not, beq_iff_eq, bne_iff_ne, beq_eq_false_iff_ne, bne_eq_false_iff_eq] at c11')
      refine wp_skip (hK9 _ _ ?_)
      refine wp_seq_k fun K12 hK12 => ?_
      refine wp_block ?_
      refine wp_seq_k fun K13 hK13 => ?_
      refine wp_region_lit ?_
      refine q_is rfl rfl (does_move (u := (.slice (some ⟨g, 0, none⟩) n cap)) (ev rfl)) (by dsimp only [List.set]; try rfl) ?_
      refine q_is rfl rfl (does_move (u := (Iv (s.1 : Int))) (ev rfl)) (by dsimp only [List.set]; try rfl) ?_
      refine q_is rfl rfl (does_move (u := (Iv s.2)) (ev rfl)) (by dsimp only [List.set]; try rfl) ?_
      refine q_is rfl rfl (does_conv_if (k := .f32) Try.underlying3 Try.underlying55 (ev rfl)) (by dsimp only [List.set]; try rfl) ?_
      refine q_is rfl rfl (does_indexOwn (b := g) (n := n) (i := (s.1 : Int)) Try.underlying30 Try.sizeOf57 (ev rfl) (ev rfl) (by omega) (by omega)) (by dsimp only [List.set]; try rfl) ?_
      refine q_is rfl rfl (does_fieldAddr (ev rfl) fa57_0) (by dsimp only [List.set]; try rfl) ?_
      refine seqn rfl rfl (does_mark (fl := true) (k := k) (N := N) (off := s.1 * 3) (j := s.1 * 3) (u := (Fl (FloatKind.f32.nearest s.2))) (ev rfl) (ev rfl) Try.sizeOf55 (mkc_f (by first | rfl | omega)) (by omega) (by omega) hF7) ?_; rintro _ w16 ⟨rfl, W14, hM15⟩
      have X17 := KpL.more X8 (KpL.of_wr W14) (allS (.inl (by simp)) all0)
      refine wpList_nil (hK13 _ _ ?_)
      refine wp_seq_k fun K18 hK18 => ?_
      refine wp_region_lit ?_
      refine q_is rfl rfl (does_move (u := (Iv s.2)) (ev rfl)) (by dsimp only [List.set]; try rfl) ?_
      refine q_is rfl rfl (does_iarith (p := s.2) (q := 1) (r := s.2 + 1) (ev rfl) (ev rfl) (.inl ⟨rfl, (in_i64 (by omega) (by omega)).symm⟩)) (by dsimp only [List.set]; try rfl) ?_
      refine q_is rfl rfl (does_assign (u := (Iv (s.2 + 1))) (ev rfl)) (by dsimp only [List.set]; try rfl) ?_
      refine wpList_nil (hK18 _ _ ?_)
      refine wp_seq_k fun K19 hK19 => ?_
      refine wp_region_lit ?_
      refine q_is rfl rfl (does_move (u := (.slice (some ⟨g, 0, none⟩) n cap)) (ev rfl)) (by dsimp only [List.set]; try rfl) ?_
      refine q_is rfl rfl (does_move (u := (Iv (s.1 : Int))) (ev rfl)) (by dsimp only [List.set]; try rfl) ?_
      refine q_is rfl rfl (does_move (u := (Iv (s.2 + 1))) (ev rfl)) (by dsimp only [List.set]; try rfl) ?_
      refine q_is rfl rfl (does_conv_if (k := .f32) Try.underlying3 Try.underlying55 (ev rfl)) (by dsimp only [List.set]; try rfl) ?_
      refine q_is rfl rfl (does_indexOwn (b := g) (n := n) (i := (s.1 : Int)) Try.underlying30 Try.sizeOf57 (ev rfl) (ev rfl) (by omega) (by omega)) (by dsimp only [List.set]; try rfl) ?_
      refine q_is rfl rfl (does_fieldAddr (ev rfl) fa57_1) (by dsimp only [List.set]; try rfl) ?_
      refine seqn rfl rfl (does_mark (fl := true) (k := k) (N := N) (off := s.1 * 3 + 1) (j := s.1 * 3 + 1) (u := (Fl (FloatKind.f32.nearest (s.2 + 1)))) (ev rfl) (ev rfl) Try.sizeOf55 (mkc_f (by first | rfl | omega)) (by omega) (by omega) hM15) ?_; rintro _ w22 ⟨rfl, W20, hM21⟩
      have X23 := KpL.more X17 (KpL.of_wr W20) (allS (.inl (by simp)) all0)
      refine wpList_nil (hK19 _ _ ?_)
      refine wp_seq_k fun K24 hK24 => ?_
      refine wp_region_lit ?_
      refine q_is rfl rfl (does_move (u := (Iv (s.2 + 1))) (ev rfl)) (by dsimp only [List.set]; try rfl) ?_
      refine q_is rfl rfl (does_iarith (p := s.2 + 1) (q := 1) (r := (s.2 + 1) + 1) (ev rfl) (ev rfl) (.inl ⟨rfl, (in_i64 (by omega) (by omega)).symm⟩)) (by dsimp only [List.set]; try rfl) ?_
      refine q_is rfl rfl (does_assign (u := (Iv ((s.2 + 1) + 1))) (ev rfl)) (by dsimp only [List.set]; try rfl) ?_
      refine wpList_nil (hK24 _ _ ?_)
      refine wp_seq_k fun K25 hK25 => ?_
      refine wp_region_lit ?_
      refine q_is rfl rfl (does_move (u := (.slice (some ⟨g, 0, none⟩) n cap)) (ev rfl)) (by dsimp only [List.set]; try rfl) ?_
      refine q_is rfl rfl (does_move (u := (Iv (s.1 : Int))) (ev rfl)) (by dsimp only [List.set]; try rfl) ?_
      refine q_is rfl rfl (does_move (u := (Iv ((s.2 + 1) + 1))) (ev rfl)) (by dsimp only [List.set]; try rfl) ?_
      refine q_is rfl rfl (does_conv_if (k := .f32) Try.underlying3 Try.underlying55 (ev rfl)) (by dsimp only [List.set]; try rfl) ?_
      refine q_is rfl rfl (does_indexOwn (b := g) (n := n) (i := (s.1 : Int)) Try.underlying30 Try.sizeOf57 (ev rfl) (ev rfl) (by omega) (by omega)) (by dsimp only [List.set]; try rfl) ?_
      refine q_is rfl rfl (does_fieldAddr (ev rfl) fa57_2) (by dsimp only [List.set]; try rfl) ?_
      refine seqn rfl rfl (does_mark (fl := true) (k := k) (N := N) (off := s.1 * 3 + 2) (j := s.1 * 3 + 1 + 1) (u := (Fl (FloatKind.f32.nearest ((s.2 + 1) + 1)))) (ev rfl) (ev rfl) Try.sizeOf55 (mkc_f (by first | rfl | omega)) (by omega) (by omega) hM21) ?_; rintro _ w28 ⟨rfl, W26, hM27⟩
      have X29 := KpL.more X23 (KpL.of_wr W26) (allS (.inl (by simp)) all0)
      refine wpList_nil (hK25 _ _ ?_)
      refine wp_region_lit ?_
      refine q_is rfl rfl (does_move (u := (Iv ((s.2 + 1) + 1))) (ev rfl)) (by dsimp only [List.set]; try rfl) ?_
      refine q_is rfl rfl (does_iarith (p := (s.2 + 1) + 1) (q := 1) (r := ((s.2 + 1) + 1) + 1) (ev rfl) (ev rfl) (.inl ⟨rfl, (in_i64 (by omega) (by omega)).symm⟩)) (by dsimp only [List.set]; try rfl) ?_
      refine q_is rfl rfl (does_assign (u := (Iv (((s.2 + 1) + 1) + 1))) (ev rfl)) (by dsimp only [List.set]; try rfl) ?_
      refine wpList_nil (hK12 _ _ ?_)
      refine wp_region_lit ?_
      refine q_is rfl rfl (does_move (u := (Iv (s.1 : Int))) (ev rfl)) (by dsimp only [List.set]; try rfl) ?_
      refine q_is rfl rfl (does_iarith (p := (s.1 : Int)) (q := 1) (r := (s.1 : Int) + 1) (ev rfl) (ev rfl) (.inl ⟨rfl, (in_i64 (by omega) (by omega)).symm⟩)) (by dsimp only [List.set]; try rfl) ?_
      refine q_is rfl rfl (does_assign (u := (Iv ((s.1 : Int) + 1))) (ev rfl)) (by dsimp only [List.set]; try rfl) ?_
      refine wpList_nil ?_
      refine ⟨(s.1 + 1, ((s.2 + 1) + 1) + 1), ⟨fun t => (([(.slice (some ⟨g, 0, none⟩) n cap), (Iv (((s.2 + 1) + 1) + 1)), Ud, Ud, (Iv 0), (Iv ((s.1 : Int) + 1)), (Iv (s.1 : Int)), (.slice (some ⟨g, 0, none⟩) n cap), (Iv (n : Int)), (Bo (icmp .lss (s.1 : Int) (n : Int))), (Iv (s.1 : Int)), (Iv ((s.1 : Int) + 1)), (.slice (some ⟨g, 0, none⟩) n cap), (Iv (s.1 : Int)), (Iv s.2), (Fl (FloatKind.f32.nearest s.2)), (Pt g (s.1 * 3)), (Pt g (s.1 * 3)), (Iv s.2), (Iv (s.2 + 1)), (.slice (some ⟨g, 0, none⟩) n cap), (Iv (s.1 : Int)), (Iv (s.2 + 1)), (Fl (FloatKind.f32.nearest (s.2 + 1))), (Pt g (s.1 * 3)), (Pt g (s.1 * 3 + 1)), (Iv (s.2 + 1)), (Iv ((s.2 + 1) + 1)), (.slice (some ⟨g, 0, none⟩) n cap), (Iv (s.1 : Int)), (Iv ((s.2 + 1) + 1)), (Fl (FloatKind.f32.nearest ((s.2 + 1) + 1))), (Pt g (s.1 * 3)), (Pt g (s.1 * 3 + 2)), (Iv ((s.2 + 1) + 1)), (Iv (((s.2 + 1) + 1) + 1)), Ud] : List Value)[t]?).getD undef, ?_, (KpL.more (KpL.more (KpL.more E6 (KpL.of_wr W14) (allS (.inl (by simp)) all0)) (KpL.of_wr W20) (allS (.inl (by simp)) all0)) (KpL.of_wr W26) (allS (.inl (by simp)) all0)), (Mk.cast hM27 (by (try dsimp only); omega)), ?_⟩, ?_⟩
      · first | rfl | (simp only [Int.natCast_add, Int.natCast_one]; rfl)
      · (try dsimp only); exact ⟨by omega, by omega⟩
      · (try dsimp only); omega
    have c11' := c11
    (try simp only [icmp, Bool.and_eq_true, Bool.or_eq_true, Bool.and_eq_false_iff, Bool.or_eq_false_iff, Bool.not_eq_true', Bool.not_eq_false', decide_eq_true_eq, decide_eq_false_iff_not, beq_iff_eq, bne_iff_ne, beq_eq_false_iff_ne, bne_eq_false_iff_eq] at c11')
    refine wp_exit ?_
    refine hK2 _ _ ?_
    refine wp_seq_k fun K30 hK30 => ?_
    refine wp_region_lit ?_
    refine q_is rfl rfl (does_move (u := (Iv s.2)) (ev rfl)) (by dsimp only [List.set]; try rfl) ?_
    refine q_is rfl rfl (does_assign (u := (Iv s.2)) (ev rfl)) (by dsimp only [List.set]; try rfl) ?_
    refine wpList_nil (hK30 _ _ ?_)
    refine wp_ret ?_
    refine ret_valK (v := (Iv s.2)) (res_T rfl (slot rfl)) X8 ?_
    have hj : s.1 = n := by omega
    exact ⟨by first | rfl | (show Value.int _ _ = Value.int _ _; congr 1; omega), Mk.cast hF7 (by rw [hj])⟩

theorem c_laws_markVectorS (a : Value) (n : Nat) (L : List Nat) (B : Nat) (k : Int) (w : World) (ha : WL 3 B w L a n) (h0 : 0 ≤ k) (h1 : k + (n : Int) * 3 ≤ 4611686018427387904) : GivesK L Try.prog 33 #[a, Iv k] w (fun v w' => v = Iv (k + (n : Int) * 3) ∧ Hang B w' (fun u => Sl RV3 3 u a (mkL fV 3 k n))) := by
  obtain ⟨hL, ⟨rfl, rfl, rfl⟩ | ⟨g, cap, cs, rfl, rfl, hB, hn, hc⟩⟩ := ha
  · exact (Gives.toK (c_laws_markVectorS_nil k w)).mono fun v w' hv => ⟨by rw [hv]; simp, fun u _ => Sl_mk0 u⟩
  · exact (c_laws_markVectorS_blk g cs.length n cap k w (Mk.zero hB rfl) hn h0 h1).mono fun v w' ⟨hv, hM⟩ => ⟨hv, Mk.hang hM (hL g (by simp)).1 hc (by decide) (by omega) rV⟩

theorem c_laws_markVectorS_mk (a : Value) (n : Nat) (L : List Nat) (B : Nat) (k : Int) (w : World) (ha : WL 3 B w L a n) (h0 : 0 ≤ k) (h1 : k + (n : Int) * 3 ≤ 4611686018427387904) : GivesK L Try.prog 33 #[a, Iv k] w (fun v w' => v = Iv (k + (n : Int) * 3) ∧ MkS true 3 k w' L a n) := by
  obtain ⟨hL, ⟨rfl, rfl, rfl⟩ | ⟨g, cap, cs, rfl, rfl, hB, hn, hc⟩⟩ := ha
  · exact (Gives.toK (c_laws_markVectorS_nil k w)).mono fun v w' hv => ⟨by rw [hv]; simp, .inl ⟨rfl, rfl, rfl⟩⟩
  · exact (c_laws_markVectorS_blk g cs.length n cap k w (Mk.zero hB rfl) hn h0 h1).mono fun v w' ⟨hv, hM⟩ => ⟨hv, .inr ⟨g, cap, cs.length, rfl, rfl, hM, hc⟩⟩

theorem c_laws_markInt64S_nil (k : Int) (w : World) : Gives Try.prog 14 #[.slice none 0 0, Iv k] w (fun v _ => v = Iv k) := by
  refine enter [(.slice none 0 0), (Iv k), Ud, Ud, Ud, Ud, Ud, Ud, Ud, Ud, Ud, Ud, Ud, Ud, Ud, Ud, Ud, Ud, Ud] Try.func14 rfl Try.ntmps14 rfl ?_
  refine wp_seq_k fun K1 hK1 => ?_
  refine wp_region_lit ?_
  refine q_is (l' := [(.slice none 0 0), (Iv k), Ud, Ud, (Iv 0), Ud, Ud, Ud, Ud, Ud, Ud, Ud, Ud, Ud, Ud, Ud, Ud, Ud, Ud]) rfl rfl (does_assign (u := (Iv 0)) (ev rfl)) rfl ?_
  refine wpList_nil (hK1 _ _ ?_)
  refine wp_seq_k fun K2 hK2 => ?_
  refine wp_seq_k fun K3 hK3 => ?_
  refine wp_region_lit ?_
  refine q_is (l' := [(.slice none 0 0), (Iv k), Ud, Ud, (Iv 0), (Iv 0), Ud, Ud, Ud, Ud, Ud, Ud, Ud, Ud, Ud, Ud, Ud, Ud, Ud]) rfl rfl (does_assign (u := (Iv 0)) (ev rfl)) rfl ?_
  refine wpList_nil (hK3 _ _ ?_)
  refine wp_block ?_
  refine loop_unroll 1 ?_
  refine un_step ?_
  refine wp_seq_k fun K4 hK4 => ?_
  refine wp_seq_k fun K5 hK5 => ?_
  refine wp_region_lit ?_
  refine q_is (l' := [(.slice none 0 0), (Iv k), Ud, Ud, (Iv 0), (Iv 0), (Iv 0), Ud, Ud, Ud, Ud, Ud, Ud, Ud, Ud, Ud, Ud, Ud, Ud]) rfl rfl (does_move (u := (Iv 0)) (ev rfl)) rfl ?_
  refine q_is (l' := [(.slice none 0 0), (Iv k), Ud, Ud, (Iv 0), (Iv 0), (Iv 0), (.slice none 0 0), Ud, Ud, Ud, Ud, Ud, Ud, Ud, Ud, Ud, Ud, Ud]) rfl rfl (does_move (u := (.slice none 0 0)) (ev rfl)) rfl ?_
  refine q_is (l' := [(.slice none 0 0), (Iv k), Ud, Ud, (Iv 0), (Iv 0), (Iv 0), (.slice none 0 0), (Iv 0), Ud, Ud, Ud, Ud, Ud, Ud, Ud, Ud, Ud, Ud]) rfl rfl (does_len_slice Try.underlying27 (ev rfl)) rfl ?_
  refine q_is (l' := [(.slice none 0 0), (Iv k), Ud, Ud, (Iv 0), (Iv 0), (Iv 0), (.slice none 0 0), (Iv 0), (Bo false), Ud, Ud, Ud, Ud, Ud, Ud, Ud, Ud, Ud]) rfl rfl (does_icmp (p := 0) (q := 0) (.inr (.inr (.inl rfl))) (ev rfl) (ev rfl)) rfl ?_
  refine wpList_nil (hK5 _ _ ?_)
  refine wp_cond_false (ev rfl) ?_
  refine wp_exit ?_
  refine hK2 _ _ ?_
  refine wp_seq_k fun K6 hK6 => ?_
  refine wp_region_lit ?_
  refine q_is (l' := [(.slice none 0 0), (Iv k), Ud, Ud, (Iv 0), (Iv 0), (Iv 0), (.slice none 0 0), (Iv 0), (Bo false), Ud, Ud, Ud, Ud, Ud, Ud, Ud, Ud, (Iv k)]) rfl rfl (does_move (u := (Iv k)) (ev rfl)) rfl ?_
  refine q_is (l' := [(.slice none 0 0), (Iv k), Ud, Ud, (Iv k), (Iv 0), (Iv 0), (.slice none 0 0), (Iv 0), (Bo false), Ud, Ud, Ud, Ud, Ud, Ud, Ud, Ud, (Iv k)]) rfl rfl (does_assign (u := (Iv k)) (ev rfl)) rfl ?_
  refine wpList_nil (hK6 _ _ ?_)
  refine wp_ret ?_
  refine ret_val (v := (Iv k)) (res_T rfl (slot rfl)) (Ext.refl w) ?_
  have x7 : (k : Int) = k := by first | with_reducible rfl | (simp only []; done) | (simp []; done) | rfl
  exact (by first | with_reducible rfl | rw [x7] | rfl)

theorem c_laws_markInt64S_blk (g N n cap : Nat) (k : Int) (w : World) (hM : Mk false k w g N 0) (hn : n * 1 ≤ N) (h0 : 0 ≤ k) (h1 : k + (n : Int) * 1 ≤ 4611686018427387904) : GivesK [g] Try.prog 14 #[.slice (some ⟨g, 0, none⟩) n cap, Iv k] w (fun v w' => v = Iv (k + (n : Int) * 1) ∧ Mk false k w' g N (n * 1)) := by
  refine enterK [(.slice (some ⟨g, 0, none⟩) n cap), (Iv k), Ud, Ud, Ud, Ud, Ud, Ud, Ud, Ud, Ud, Ud, Ud, Ud, Ud, Ud, Ud, Ud, Ud] Try.func14 rfl Try.ntmps14 rfl ?_
  refine wp_seq_k fun K1 hK1 => ?_
  refine wp_region_lit ?_
  refine q_is (l' := [(.slice (some ⟨g, 0, none⟩) n cap), (Iv k), Ud, Ud, (Iv 0), Ud, Ud, Ud, Ud, Ud, Ud, Ud, Ud, Ud, Ud, Ud, Ud, Ud, Ud]) rfl rfl (does_assign (u := (Iv 0)) (ev rfl)) rfl ?_
  refine wpList_nil (hK1 _ _ ?_)
  refine wp_seq_k fun K2 hK2 => ?_
  refine wp_seq_k fun K3 hK3 => ?_
  refine wp_region_lit ?_
  refine q_is (l' := [(.slice (some ⟨g, 0, none⟩) n cap), (Iv k), Ud, Ud, (Iv 0), (Iv 0), Ud, Ud, Ud, Ud, Ud, Ud, Ud, Ud, Ud, Ud, Ud, Ud, Ud]) rfl rfl (does_assign (u := (Iv 0)) (ev rfl)) rfl ?_
  refine wpList_nil (hK3 _ _ ?_)
  refine wp_block ?_
  refine loop_ghost (σ := Nat × Int) (fun s a w' => ∃ u4 : Nat → Value, a = fr [(.slice (some ⟨g, 0, none⟩) n cap), (Iv s.2), Ud, Ud, (Iv 0), (Iv (s.1 : Int)), (u4 6), (u4 7), (u4 8), (u4 9), (u4 10), (u4 11), (u4 12), (u4 13), (u4 14), (u4 15), (u4 16), (u4 17), Ud] ∧ KpL [g] w w' ∧ Mk false k w' g N (s.1 * 1) ∧ (s.1 ≤ n ∧ s.2 = k + (s.1 : Int) * 1)) (fun s => n - s.1) (0, k) ?_ ?_
  · refine ⟨fun t => (([(.slice (some ⟨g, 0, none⟩) n cap), (Iv k), Ud, Ud, (Iv 0), (Iv 0), Ud, Ud, Ud, Ud, Ud, Ud, Ud, Ud, Ud, Ud, Ud, Ud, Ud] : List Value)[t]?).getD undef, rfl, KpL.refl _ _, (Mk.cast hM (by simp)), ?_⟩
    exact ⟨Nat.zero_le _, by simp⟩
  · rintro s a w5 ⟨u4, rfl, E6, hF7, ⟨hk, hn2⟩⟩
    have X8 := KpL.more (KpL.refl [g] w) E6 (allS (.inl (by simp)) all0)
    refine wp_seq_k fun K9 hK9 => ?_
    refine wp_seq_k fun K10 hK10 => ?_
    refine wp_region_lit ?_
    refine q_is (l' := [(.slice (some ⟨g, 0, none⟩) n cap), (Iv s.2), Ud, Ud, (Iv 0), (Iv (s.1 : Int)), (Iv (s.1 : Int)), (u4 7), (u4 8), (u4 9), (u4 10), (u4 11), (u4 12), (u4 13), (u4 14), (u4 15), (u4 16), (u4 17), Ud]) rfl rfl (does_move (u := (Iv (s.1 : Int))) (ev rfl)) rfl ?_
    refine q_is (l' := [(.slice (some ⟨g, 0, none⟩) n cap), (Iv s.2), Ud, Ud, (Iv 0), (Iv (s.1 : Int)), (Iv (s.1 : Int)), (.slice (some ⟨g, 0, none⟩) n cap), (u4 8), (u4 9), (u4 10), (u4 11), (u4 12), (u4 13), (u4 14), (u4 15), (u4 16), (u4 17), Ud]) rfl rfl (does_move (u := (.slice (some ⟨g, 0, none⟩) n cap)) (ev rfl)) rfl ?_
    refine q_is (l' := [(.slice (some ⟨g, 0, none⟩) n cap), (Iv s.2), Ud, Ud, (Iv 0), (Iv (s.1 : Int)), (Iv (s.1 : Int)), (.slice (some ⟨g, 0, none⟩) n cap), (Iv (n : Int)), (u4 9), (u4 10), (u4 11), (u4 12), (u4 13), (u4 14), (u4 15), (u4 16), (u4 17), Ud]) rfl rfl (does_len_slice Try.underlying27 (ev rfl)) rfl ?_
    refine q_is (l' := [(.slice (some ⟨g, 0, none⟩) n cap), (Iv s.2), Ud, Ud, (Iv 0), (Iv (s.1 : Int)), (Iv (s.1 : Int)), (.slice (some ⟨g, 0, none⟩) n cap), (Iv (n : Int)), (Bo (icmp .lss (s.1 : Int) (n : Int))), (u4 10), (u4 11), (u4 12), (u4 13), (u4 14), (u4 15), (u4 16), (u4 17), Ud]) rfl rfl (does_icmp (p := (s.1 : Int)) (q := (n : Int)) (.inr (.inr (.inl rfl))) (ev rfl) (ev rfl)) rfl ?_
    refine wpList_nil (hK10 _ _ ?_)
    refine wp_cond_split (t := icmp .lss (s.1 : Int) (n : Int)) (ev rfl) (fun c11 => ?_) (fun c11 => ?_)
    · have c11' := c11
      (try simp only [icmp, Bool.and_eq_true, Bool.or_eq_true, Bool.and_eq_false_iff, Bool.or_eq_false_iff, Bool.not_eq_true', Bool.not_eq_false', decide_eq_true_eq, decide_eq_false_iff_not, beq_iff_eq, bne_iff_ne, beq_eq_false_iff_ne, bne_eq_false_iff_eq] at c11')
      refine wp_skip (hK9 _ _ ?_)
      refine wp_seq_k fun K12 hK12 => ?_
      refine wp_block ?_
      refine wp_seq_k fun K13 hK13 => ?_
      refine wp_region_lit ?_
      refine q_is (l' := [(.slice (some ⟨g, 0, none⟩) n cap), (Iv s.2), Ud, Ud, (Iv 0), (Iv (s.1 : Int)), (Iv (s.1 : Int)), (.slice (some ⟨g, 0, none⟩) n cap), (Iv (n : Int)), (Bo (icmp .lss (s.1 : Int) (n : Int))), (u4 10), (u4 11), (.slice (some ⟨g, 0, none⟩) n cap), (u4 13), (u4 14), (u4 15), (u4 16), (u4 17), Ud]) rfl rfl (does_move (u := (.slice (some ⟨g, 0, none⟩) n cap)) (ev rfl)) rfl ?_
      refine q_is (l' := [(.slice (some ⟨g, 0, none⟩) n cap), (Iv s.2), Ud, Ud, (Iv 0), (Iv (s.1 : Int)), (Iv (s.1 : Int)), (.slice (some ⟨g, 0, none⟩) n cap), (Iv (n : Int)), (Bo (icmp .lss (s.1 : Int) (n : Int))), (u4 10), (u4 11), (.slice (some ⟨g, 0, none⟩) n cap), (Iv (s.1 : Int)), (u4 14), (u4 15), (u4 16), (u4 17), Ud]) rfl rfl (does_move (u := (Iv (s.1 : Int))) (ev rfl)) rfl ?_
      refine q_is (l' := [(.slice (some ⟨g, 0, none⟩) n cap), (Iv s.2), Ud, Ud, (Iv 0), (Iv (s.1 : Int)), (Iv (s.1 : Int)), (.slice (some ⟨g, 0, none⟩) n cap), (Iv (n : Int)), (Bo (icmp .lss (s.1 : Int) (n : Int))), (u4 10), (u4 11), (.slice (some ⟨g, 0, none⟩) n cap), (Iv (s.1 : Int)), (Iv s.2), (u4 15), (u4 16), (u4 17), Ud]) rfl rfl (does_move (u := (Iv s.2)) (ev rfl)) rfl ?_
      refine q_is (l' := [(.slice (some ⟨g, 0, none⟩) n cap), (Iv s.2), Ud, Ud, (Iv 0), (Iv (s.1 : Int)), (Iv (s.1 : Int)), (.slice (some ⟨g, 0, none⟩) n cap), (Iv (n : Int)), (Bo (icmp .lss (s.1 : Int) (n : Int))), (u4 10), (u4 11), (.slice (some ⟨g, 0, none⟩) n cap), (Iv (s.1 : Int)), (Iv s.2), (Pt g (s.1 * 1)), (u4 16), (u4 17), Ud]) rfl rfl (does_indexOwn (b := g) (n := n) (i := (s.1 : Int)) Try.underlying27 Try.sizeOf2 (ev rfl) (ev rfl) (by omega) (by omega)) rfl ?_
      refine seqn rfl rfl (does_mark (fl := false) (k := k) (N := N) (off := s.1 * 1) (j := s.1 * 1) (u := (Iv s.2)) (ev rfl) (ev rfl) Try.sizeOf2 (mkc_i (by omega)) (by omega) (by omega) hF7) ?_; rintro _ w16 ⟨rfl, W14, hM15⟩
      have X17 := KpL.more X8 (KpL.of_wr W14) (allS (.inl (by simp)) all0)
      refine wpList_nil (hK13 _ _ ?_)
      refine wp_region_lit ?_
      refine q_is (l' := [(.slice (some ⟨g, 0, none⟩) n cap), (Iv s.2), Ud, Ud, (Iv 0), (Iv (s.1 : Int)), (Iv (s.1 : Int)), (.slice (some ⟨g, 0, none⟩) n cap), (Iv (n : Int)), (Bo (icmp .lss (s.1 : Int) (n : Int))), (u4 10), (u4 11), (.slice (some ⟨g, 0, none⟩) n cap), (Iv (s.1 : Int)), (Iv s.2), (Pt g (s.1 * 1)), (Iv s.2), (u4 17), Ud]) rfl rfl (does_move (u := (Iv s.2)) (ev rfl)) rfl ?_
      refine q_is (l' := [(.slice (some ⟨g, 0, none⟩) n cap), (Iv s.2), Ud, Ud, (Iv 0), (Iv (s.1 : Int)), (Iv (s.1 : Int)), (.slice (some ⟨g, 0, none⟩) n cap), (Iv (n : Int)), (Bo (icmp .lss (s.1 : Int) (n : Int))), (u4 10), (u4 11), (.slice (some ⟨g, 0, none⟩) n cap), (Iv (s.1 : Int)), (Iv s.2), (Pt g (s.1 * 1)), (Iv s.2), (Iv (s.2 + 1)), Ud]) rfl rfl (does_iarith (p := s.2) (q := 1) (r := s.2 + 1) (ev rfl) (ev rfl) (.inl ⟨rfl, (in_i64 (by omega) (by omega)).symm⟩)) rfl ?_
      refine q_is (l' := [(.slice (some ⟨g, 0, none⟩) n cap), (Iv (s.2 + 1)), Ud, Ud, (Iv 0), (Iv (s.1 : Int)), (Iv (s.1 : Int)), (.slice (some ⟨g, 0, none⟩) n cap), (Iv (n : Int)), (Bo (icmp .lss (s.1 : Int) (n : Int))), (u4 10), (u4 11), (.slice (some ⟨g, 0, none⟩) n cap), (Iv (s.1 : Int)), (Iv s.2), (Pt g (s.1 * 1)), (Iv s.2), (Iv (s.2 + 1)), Ud]) rfl rfl (does_assign (u := (Iv (s.2 + 1))) (ev rfl)) rfl ?_
      refine wpList_nil (hK12 _ _ ?_)
      refine wp_region_lit ?_
      refine q_is (l' := [(.slice (some ⟨g, 0, none⟩) n cap), (Iv (s.2 + 1)), Ud, Ud, (Iv 0), (Iv (s.1 : Int)), (Iv (s.1 : Int)), (.slice (some ⟨g, 0, none⟩) n cap), (Iv (n : Int)), (Bo (icmp .lss (s.1 : Int) (n : Int))), (Iv (s.1 : Int)), (u4 11), (.slice (some ⟨g, 0, none⟩) n cap), (Iv (s.1 : Int)), (Iv s.2), (Pt g (s.1 * 1)), (Iv s.2), (Iv (s.2 + 1)), Ud]) rfl rfl (does_move (u := (Iv (s.1 : Int))) (ev rfl)) rfl ?_
      refine q_is (l' := [(.slice (some ⟨g, 0, none⟩) n cap), (Iv (s.2 + 1)), Ud, Ud, (Iv 0), (Iv (s.1 : Int)), (Iv (s.1 : Int)), (.slice (some ⟨g, 0, none⟩) n cap), (Iv (n : Int)), (Bo (icmp .lss (s.1 : Int) (n : Int))), (Iv (s.1 : Int)), (Iv ((s.1 : Int) + 1)), (.slice (some ⟨g, 0, none⟩) n cap), (Iv (s.1 : Int)), (Iv s.2), (Pt g (s.1 * 1)), (Iv s.2), (Iv (s.2 + 1)), Ud]) rfl rfl (does_iarith (p := (s.1 : Int)) (q := 1) (r := (s.1 : Int) + 1) (ev rfl) (ev rfl) (.inl ⟨rfl, (in_i64 (by omega) (by omega)).symm⟩)) rfl ?_
      refine q_is (l' := [(.slice (some ⟨g, 0, none⟩) n cap), (Iv (s.2 + 1)), Ud, Ud, (Iv 0), (Iv ((s.1 : Int) + 1)), (Iv (s.1 : Int)), (.slice (some ⟨g, 0, none⟩) n cap), (Iv (n : Int)), (Bo (icmp .lss (s.1 : Int) (n : Int))), (Iv (s.1 : Int)), (Iv ((s.1 : Int) + 1)), (.slice (some ⟨g, 0, none⟩) n cap), (Iv (s.1 : Int)), (Iv s.2), (Pt g (s.1 * 1)), (Iv s.2), (Iv (s.2 + 1)), Ud]) rfl rfl (does_assign (u := (Iv ((s.1 : Int) + 1))) (ev rfl)) rfl ?_
      refine wpList_nil ?_
      refine ⟨(s.1 + 1, s.2 + 1), ⟨fun t => (([(.slice (some ⟨g, 0, none⟩) n cap), (Iv (s.2 + 1)), Ud, Ud, (Iv 0), (Iv ((s.1 : Int) + 1)), (Iv (s.1 : Int)), (.slice (some ⟨g, 0, none⟩) n cap), (Iv (n : Int)), (Bo (icmp .lss (s.1 : Int) (n : Int))), (Iv (s.1 : Int)), (Iv ((s.1 : Int) + 1)), (.slice (some ⟨g, 0, none⟩) n cap), (Iv (s.1 : Int)), (Iv s.2), (Pt g (s.1 * 1)), (Iv s.2), (Iv (s.2 + 1)), Ud] : List Value)[t]?).getD undef, ?_, (KpL.more E6 (KpL.of_wr W14) (allS (.inl (by simp)) all0)), (Mk.cast hM15 (by (try dsimp only); omega)), ?_⟩, ?_⟩
      · first | rfl | (simp only [Int.natCast_add, Int.natCast_one]; rfl)
      · (try dsimp only); exact ⟨by omega, by omega⟩
      · (try dsimp only); omega
    have c11' := c11
    (try simp only [icmp, Bool.and_eq_true, Bool.or_eq_true, Bool.and_eq_false_iff, Bool.or_eq_false_iff, Bool.not_eq_true', Bool.not_eq_false', decide_eq_true_eq, decide_eq_false_iff_not, beq_iff_eq, bne_iff_ne, beq_eq_false_iff_ne, bne_eq_false_iff_eq] at c11')
    refine wp_exit ?_
    refine hK2 _ _ ?_
    refine wp_seq_k fun K18 hK18 => ?_
    refine wp_region_lit ?_
    refine q_is (l' := [(.slice (some ⟨g, 0, none⟩) n cap), (Iv s.2), Ud, Ud, (Iv 0), (Iv (s.1 : Int)), (Iv (s.1 : Int)), (.slice (some ⟨g, 0, none⟩) n cap), (Iv (n : Int)), (Bo (icmp .lss (s.1 : Int) (n : Int))), (u4 10), (u4 11), (u4 12), (u4 13), (u4 14), (u4 15), (u4 16), (u4 17), (Iv s.2)]) rfl rfl (does_move (u := (Iv s.2)) (ev rfl)) rfl ?_
    refine q_is (l' := [(.slice (some ⟨g, 0, none⟩) n cap), (Iv s.2), Ud, Ud, (Iv s.2), (Iv (s.1 : Int)), (Iv (s.1 : Int)), (.slice (some ⟨g, 0, none⟩) n cap), (Iv (n : Int)), (Bo (icmp .lss (s.1 : Int) (n : Int))), (u4 10), (u4 11), (u4 12), (u4 13), (u4 14), (u4 15), (u4 16), (u4 17), (Iv s.2)]) rfl rfl (does_assign (u := (Iv s.2)) (ev rfl)) rfl ?_
    refine wpList_nil (hK18 _ _ ?_)
    refine wp_ret ?_
    refine ret_valK (v := (Iv s.2)) (res_T rfl (slot rfl)) X8 ?_
    have hj : s.1 = n := by omega
    exact ⟨by first | rfl | (show Value.int _ _ = Value.int _ _; congr 1; omega), Mk.cast hF7 (by rw [hj])⟩

theorem c_laws_markInt64S (a : Value) (n : Nat) (L : List Nat) (B : Nat) (k : Int) (w : World) (ha : WL 1 B w L a n) (h0 : 0 ≤ k) (h1 : k + (n : Int) * 1 ≤ 4611686018427387904) : GivesK L Try.prog 14 #[a, Iv k] w (fun v w' => v = Iv (k + (n : Int) * 1) ∧ Hang B w' (fun u => Sl RI 1 u a (mkL fI 1 k n))) := by
  obtain ⟨hL, ⟨rfl, rfl, rfl⟩ | ⟨g, cap, cs, rfl, rfl, hB, hn, hc⟩⟩ := ha
  · exact (Gives.toK (c_laws_markInt64S_nil k w)).mono fun v w' hv => ⟨by rw [hv]; simp, fun u _ => Sl_mk0 u⟩
  · exact (c_laws_markInt64S_blk g cs.length n cap k w (Mk.zero hB rfl) hn h0 h1).mono fun v w' ⟨hv, hM⟩ => ⟨hv, Mk.hang hM (hL g (by simp)).1 hc (by decide) (by omega) rI⟩

theorem c_laws_markInt64S_mk (a : Value) (n : Nat) (L : List Nat) (B : Nat) (k : Int) (w : World) (ha : WL 1 B w L a n) (h0 : 0 ≤ k) (h1 : k + (n : Int) * 1 ≤ 4611686018427387904) : GivesK L Try.prog 14 #[a, Iv k] w (fun v w' => v = Iv (k + (n : Int) * 1) ∧ MkS false 1 k w' L a n) := by
  obtain ⟨hL, ⟨rfl, rfl, rfl⟩ | ⟨g, cap, cs, rfl, rfl, hB, hn, hc⟩⟩ := ha
  · exact (Gives.toK (c_laws_markInt64S_nil k w)).mono fun v w' hv => ⟨by rw [hv]; simp, .inl ⟨rfl, rfl, rfl⟩⟩
  · exact (c_laws_markInt64S_blk g cs.length n cap k w (Mk.zero hB rfl) hn h0 h1).mono fun v w' ⟨hv, hM⟩ => ⟨hv, .inr ⟨g, cap, cs.length, rfl, rfl, hM, hc⟩⟩

theorem c_laws_markInt64SS (a : Value) (xs : List (List Int)) (L : List Nat) (B : Nat) (k : Int) (w : World) (ha : WLL 1 B w L a xs) (h0 : 0 ≤ k) (h1 : k + (liSum xs xs.length : Nat) ≤ 4611686018427387904) : GivesK L Try.prog 34 #[a, Iv k] w (fun v w' => v = Iv (k + (liSum xs xs.length : Nat)) ∧ Hang B w' (fun u => Sl (RS RI 1) 1 u a (mkLL fI 1 (preK k xs) xs))) := by
  obtain ⟨vs, Ls, hst0⟩ := NMk.start (fl := false) ha
  replace hst0 := hst0 (preK k xs)
  obtain ⟨pa, qa, rfl⟩ := WLL.shape ha
  have hvl := hst0.len
  have hxm := hst0.most
  refine enterK [(.slice pa xs.length qa), (Iv k), Ud, Ud, Ud, Ud, Ud, Ud, Ud, Ud, Ud, Ud, Ud, Ud, Ud, Ud, Ud, Ud, Ud] Try.func34 rfl Try.ntmps34 rfl ?_
  refine wp_seq_k fun K1 hK1 => ?_
  refine wp_region_lit ?_
  refine q_is (l' := [(.slice pa xs.length qa), (Iv k), Ud, Ud, (Iv 0), Ud, Ud, Ud, Ud, Ud, Ud, Ud, Ud, Ud, Ud, Ud, Ud, Ud, Ud]) rfl rfl (does_assign (u := (Iv 0)) (ev rfl)) rfl ?_
  refine wpList_nil (hK1 _ _ ?_)
  refine wp_seq_k fun K2 hK2 => ?_
  refine wp_seq_k fun K3 hK3 => ?_
  refine wp_region_lit ?_
  refine q_is (l' := [(.slice pa xs.length qa), (Iv k), Ud, Ud, (Iv 0), (Iv 0), Ud, Ud, Ud, Ud, Ud, Ud, Ud, Ud, Ud, Ud, Ud, Ud, Ud]) rfl rfl (does_assign (u := (Iv 0)) (ev rfl)) rfl ?_
  refine wpList_nil (hK3 _ _ ?_)
  refine wp_block ?_
  refine loop_ghost (σ := Nat × Int) (fun s a w' => ∃ u4 : Nat → Value, a = fr [(.slice pa xs.length qa), (Iv s.2), Ud, Ud, (Iv 0), (Iv (s.1 : Int)), (u4 6), (u4 7), (u4 8), (u4 9), (u4 10), (u4 11), (u4 12), (u4 13), (u4 14), (u4 15), (u4 16), (u4 17), Ud] ∧ KpL L w w' ∧ NMk false 1 B L (.slice pa xs.length qa) vs Ls xs (preK k xs) s.1 w' ∧ (s.1 ≤ xs.length ∧ s.2 = k + (liSum xs s.1 : Nat))) (fun s => xs.length - s.1) (0, k) ?_ ?_
  · refine ⟨fun t => (([(.slice pa xs.length qa), (Iv k), Ud, Ud, (Iv 0), (Iv 0), Ud, Ud, Ud, Ud, Ud, Ud, Ud, Ud, Ud, Ud, Ud, Ud, Ud] : List Value)[t]?).getD undef, rfl, KpL.refl _ _, hst0, ?_⟩
    exact ⟨Nat.zero_le _, by simp [liSum]⟩
  · rintro s a w5 ⟨u4, rfl, E6, hst, ⟨hk, hn2⟩⟩
    have X8 := KpL.more (KpL.refl L w) E6 (fun c hc => .inl (by simp [hc]))
    refine wp_seq_k fun K9 hK9 => ?_
    refine wp_seq_k fun K10 hK10 => ?_
    refine wp_region_lit ?_
    refine q_is (l' := [(.slice pa xs.length qa), (Iv s.2), Ud, Ud, (Iv 0), (Iv (s.1 : Int)), (Iv (s.1 : Int)), (u4 7), (u4 8), (u4 9), (u4 10), (u4 11), (u4 12), (u4 13), (u4 14), (u4 15), (u4 16), (u4 17), Ud]) rfl rfl (does_move (u := (Iv (s.1 : Int))) (ev rfl)) rfl ?_
    refine q_is (l' := [(.slice pa xs.length qa), (Iv s.2), Ud, Ud, (Iv 0), (Iv (s.1 : Int)), (Iv (s.1 : Int)), (.slice pa xs.length qa), (u4 8), (u4 9), (u4 10), (u4 11), (u4 12), (u4 13), (u4 14), (u4 15), (u4 16), (u4 17), Ud]) rfl rfl (does_move (u := (.slice pa xs.length qa)) (ev rfl)) rfl ?_
    refine q_is (l' := [(.slice pa xs.length qa), (Iv s.2), Ud, Ud, (Iv 0), (Iv (s.1 : Int)), (Iv (s.1 : Int)), (.slice pa xs.length qa), (Iv (xs.length : Int)), (u4 9), (u4 10), (u4 11), (u4 12), (u4 13), (u4 14), (u4 15), (u4 16), (u4 17), Ud]) rfl rfl (does_len_slice Try.underlying23 (ev rfl)) rfl ?_
    refine q_is (l' := [(.slice pa xs.length qa), (Iv s.2), Ud, Ud, (Iv 0), (Iv (s.1 : Int)), (Iv (s.1 : Int)), (.slice pa xs.length qa), (Iv (xs.length : Int)), (Bo (icmp .lss (s.1 : Int) (xs.length : Int))), (u4 10), (u4 11), (u4 12), (u4 13), (u4 14), (u4 15), (u4 16), (u4 17), Ud]) rfl rfl (does_icmp (p := (s.1 : Int)) (q := (xs.length : Int)) (.inr (.inr (.inl rfl))) (ev rfl) (ev rfl)) rfl ?_
    refine wpList_nil (hK10 _ _ ?_)
    refine wp_cond_split (t := icmp .lss (s.1 : Int) (xs.length : Int)) (ev rfl) (fun c11 => ?_) (fun c11 => ?_)
    · have c11' := c11
      (try simp only [icmp, Bool.and_eq_true, Bool.or_eq_true, Bool.and_eq_false_iff, Bool.or_eq_false_iff, Bool.not_eq_true', Bool.not_eq_false', decide_eq_true_eq, decide_eq_false_iff_not, beq_iff_eq, bne_iff_ne, beq_eq_false_iff_ne, bne_eq_false_iff_eq] at c11')
      refine wp_skip (hK9 _ _ ?_)
      refine wp_seq_k fun K12 hK12 => ?_
      refine wp_block ?_
      refine wp_region_lit ?_
      refine q_is (l' := [(.slice pa xs.length qa), (Iv s.2), Ud, Ud, (Iv 0), (Iv (s.1 : Int)), (Iv (s.1 : Int)), (.slice pa xs.length qa), (Iv (xs.length : Int)), (Bo (icmp .lss (s.1 : Int) (xs.length : Int))), (u4 10), (u4 11), (.slice pa xs.length qa), (u4 13), (u4 14), (u4 15), (u4 16), (u4 17), Ud]) rfl rfl (does_move (u := (.slice pa xs.length qa)) (ev rfl)) rfl ?_
      refine q_is (l' := [(.slice pa xs.length qa), (Iv s.2), Ud, Ud, (Iv 0), (Iv (s.1 : Int)), (Iv (s.1 : Int)), (.slice pa xs.length qa), (Iv (xs.length : Int)), (Bo (icmp .lss (s.1 : Int) (xs.length : Int))), (u4 10), (u4 11), (.slice pa xs.length qa), (Iv (s.1 : Int)), (u4 14), (u4 15), (u4 16), (u4 17), Ud]) rfl rfl (does_move (u := (Iv (s.1 : Int))) (ev rfl)) rfl ?_
      obtain ⟨x1, hx1⟩ : ∃ x, xs[s.1]? = some x := ⟨_, List.getElem?_eq_getElem (by omega)⟩
      have hss := liSum_succ hx1
      have hmo := liSum_mono xs (j := s.1 + 1) (k := xs.length) (by omega)
      obtain ⟨el1, hel1⟩ : ∃ e, vs[s.1]? = some e := ⟨_, List.getElem?_eq_getElem (by omega)⟩
      refine seqd rfl rfl (does_indexSl (R := RVl) (i := (s.1 : Int)) (xs := vs) (e := el1) Try.underlying23 Try.sizeOf27 (ev rfl) (ev rfl) (NMk.slv hst) (by omega) hel1) ?_; rintro _ w5 ⟨b13, o14, _, rfl, hc16, rfl, rfl⟩
      show wpList _ _ _ _ (fr [(.slice pa xs.length qa), (Iv s.2), Ud, Ud, (Iv 0), (Iv (s.1 : Int)), (Iv (s.1 : Int)), (.slice pa xs.length qa), (Iv (xs.length : Int)), (Bo (icmp .lss (s.1 : Int) (xs.length : Int))), (u4 10), (u4 11), (.slice pa xs.length qa), (Iv (s.1 : Int)), (Pt b13 o14), (u4 15), (u4 16), (u4 17), Ud]) _
      refine q_is (l' := [(.slice pa xs.length qa), (Iv s.2), Ud, Ud, (Iv 0), (Iv (s.1 : Int)), (Iv (s.1 : Int)), (.slice pa xs.length qa), (Iv (xs.length : Int)), (Bo (icmp .lss (s.1 : Int) (xs.length : Int))), (u4 10), (u4 11), (.slice pa xs.length qa), (Iv (s.1 : Int)), (Pt b13 o14), el1, (u4 16), (u4 17), Ud]) rfl rfl (does_load (u := el1) (ev rfl) Try.isAgg27 (Cells.at hc16 0 rfl)) rfl ?_
      refine q_is (l' := [(.slice pa xs.length qa), (Iv s.2), Ud, Ud, (Iv 0), (Iv (s.1 : Int)), (Iv (s.1 : Int)), (.slice pa xs.length qa), (Iv (xs.length : Int)), (Bo (icmp .lss (s.1 : Int) (xs.length : Int))), (u4 10), (u4 11), (.slice pa xs.length qa), (Iv (s.1 : Int)), (Pt b13 o14), el1, (Iv s.2), (u4 17), Ud]) rfl rfl (does_move (u := (Iv s.2)) (ev rfl)) rfl ?_
      refine seqd rfl rfl (does_callK (args := #[el1, (Iv s.2)]) cal14 (evs rfl) (c_laws_markInt64S_mk el1 x1.length (Ls s.1) B s.2 _ (hst.rest s.1 _ _ (Nat.le_refl _) hel1 hx1) (by omega) (by omega))) ?_; rintro _ w17 ⟨K18, rfl, hM19⟩
      have X20 := KpL.more X8 K18 (fun c hc => .inl (hst.sub _ c hc))
      show wpList _ _ _ _ (fr [(.slice pa xs.length qa), (Iv s.2), Ud, Ud, (Iv 0), (Iv (s.1 : Int)), (Iv (s.1 : Int)), (.slice pa xs.length qa), (Iv (xs.length : Int)), (Bo (icmp .lss (s.1 : Int) (xs.length : Int))), (u4 10), (u4 11), (.slice pa xs.length qa), (Iv (s.1 : Int)), (Pt b13 o14), el1, (Iv s.2), (Iv (s.2 + (x1.length : Int) * 1)), Ud]) _
      refine q_is (l' := [(.slice pa xs.length qa), (Iv (s.2 + (x1.length : Int) * 1)), Ud, Ud, (Iv 0), (Iv (s.1 : Int)), (Iv (s.1 : Int)), (.slice pa xs.length qa), (Iv (xs.length : Int)), (Bo (icmp .lss (s.1 : Int) (xs.length : Int))), (u4 10), (u4 11), (.slice pa xs.length qa), (Iv (s.1 : Int)), (Pt b13 o14), el1, (Iv s.2), (Iv (s.2 + (x1.length : Int) * 1)), Ud]) rfl rfl (does_assign (u := (Iv (s.2 + (x1.length : Int) * 1))) (ev rfl)) rfl ?_
      refine wpList_nil (hK12 _ _ ?_)
      refine wp_region_lit ?_
      refine q_is (l' := [(.slice pa xs.length qa), (Iv (s.2 + (x1.length : Int) * 1)), Ud, Ud, (Iv 0), (Iv (s.1 : Int)), (Iv (s.1 : Int)), (.slice pa xs.length qa), (Iv (xs.length : Int)), (Bo (icmp .lss (s.1 : Int) (xs.length : Int))), (Iv (s.1 : Int)), (u4 11), (.slice pa xs.length qa), (Iv (s.1 : Int)), (Pt b13 o14), el1, (Iv s.2), (Iv (s.2 + (x1.length : Int) * 1)), Ud]) rfl rfl (does_move (u := (Iv (s.1 : Int))) (ev rfl)) rfl ?_
      refine q_is (l' := [(.slice pa xs.length qa), (Iv (s.2 + (x1.length : Int) * 1)), Ud, Ud, (Iv 0), (Iv (s.1 : Int)), (Iv (s.1 : Int)), (.slice pa xs.length qa), (Iv (xs.length : Int)), (Bo (icmp .lss (s.1 : Int) (xs.length : Int))), (Iv (s.1 : Int)), (Iv ((s.1 : Int) + 1)), (.slice pa xs.length qa), (Iv (s.1 : Int)), (Pt b13 o14), el1, (Iv s.2), (Iv (s.2 + (x1.length : Int) * 1)), Ud]) rfl rfl (does_iarith (p := (s.1 : Int)) (q := 1) (r := (s.1 : Int) + 1) (ev rfl) (ev rfl) (.inl ⟨rfl, (in_i64 (by omega) (by omega)).symm⟩)) rfl ?_
      refine q_is (l' := [(.slice pa xs.length qa), (Iv (s.2 + (x1.length : Int) * 1)), Ud, Ud, (Iv 0), (Iv ((s.1 : Int) + 1)), (Iv (s.1 : Int)), (.slice pa xs.length qa), (Iv (xs.length : Int)), (Bo (icmp .lss (s.1 : Int) (xs.length : Int))), (Iv (s.1 : Int)), (Iv ((s.1 : Int) + 1)), (.slice pa xs.length qa), (Iv (s.1 : Int)), (Pt b13 o14), el1, (Iv s.2), (Iv (s.2 + (x1.length : Int) * 1)), Ud]) rfl rfl (does_assign (u := (Iv ((s.1 : Int) + 1))) (ev rfl)) rfl ?_
      refine wpList_nil ?_
      refine ⟨(s.1 + 1, s.2 + (x1.length : Int) * 1), ⟨fun t => (([(.slice pa xs.length qa), (Iv (s.2 + (x1.length : Int) * 1)), Ud, Ud, (Iv 0), (Iv ((s.1 : Int) + 1)), (Iv (s.1 : Int)), (.slice pa xs.length qa), (Iv (xs.length : Int)), (Bo (icmp .lss (s.1 : Int) (xs.length : Int))), (Iv (s.1 : Int)), (Iv ((s.1 : Int) + 1)), (.slice pa xs.length qa), (Iv (s.1 : Int)), (Pt b13 o14), el1, (Iv s.2), (Iv (s.2 + (x1.length : Int) * 1)), Ud] : List Value)[t]?).getD undef, ?_, (KpL.more E6 K18 (fun c hc => .inl (hst.sub _ c hc))), (NMk.step hst K18 (fun y z hy hz => by rw [hel1] at hy; rw [hx1] at hz; cases hy; cases hz; rw [show preK k xs s.1 = s.2 from hn2.symm]; exact hM19)), ?_⟩, ?_⟩
      · first | rfl | (simp only [Int.natCast_add, Int.natCast_one]; rfl)
      · (try dsimp only); exact ⟨by omega, by (try dsimp only); omega⟩
      · (try dsimp only); omega
    have c11' := c11
    (try simp only [icmp, Bool.and_eq_true, Bool.or_eq_true, Bool.and_eq_false_iff, Bool.or_eq_false_iff, Bool.not_eq_true', Bool.not_eq_false', decide_eq_true_eq, decide_eq_false_iff_not, beq_iff_eq, bne_iff_ne, beq_eq_false_iff_ne, bne_eq_false_iff_eq] at c11')
    refine wp_exit ?_
    refine hK2 _ _ ?_
    refine wp_seq_k fun K21 hK21 => ?_
    refine wp_region_lit ?_
    refine q_is (l' := [(.slice pa xs.length qa), (Iv s.2), Ud, Ud, (Iv 0), (Iv (s.1 : Int)), (Iv (s.1 : Int)), (.slice pa xs.length qa), (Iv (xs.length : Int)), (Bo (icmp .lss (s.1 : Int) (xs.length : Int))), (u4 10), (u4 11), (u4 12), (u4 13), (u4 14), (u4 15), (u4 16), (u4 17), (Iv s.2)]) rfl rfl (does_move (u := (Iv s.2)) (ev rfl)) rfl ?_
    refine q_is (l' := [(.slice pa xs.length qa), (Iv s.2), Ud, Ud, (Iv s.2), (Iv (s.1 : Int)), (Iv (s.1 : Int)), (.slice pa xs.length qa), (Iv (xs.length : Int)), (Bo (icmp .lss (s.1 : Int) (xs.length : Int))), (u4 10), (u4 11), (u4 12), (u4 13), (u4 14), (u4 15), (u4 16), (u4 17), (Iv s.2)]) rfl rfl (does_assign (u := (Iv s.2)) (ev rfl)) rfl ?_
    refine wpList_nil (hK21 _ _ ?_)
    refine wp_ret ?_
    refine ret_valK (v := (Iv s.2)) (res_T rfl (slot rfl)) X8 ?_
    exact ⟨by first | rfl | (show Value.int _ _ = Value.int _ _; congr 1; rw [hn2, show s.1 = xs.length by omega]), NMk.hang hst (by omega) (by decide) (fun x hx => by have := liSum_each hx; omega) rI⟩

theorem c_laws_markMesh (p t : Value) (m : MeshT) (L : List Nat) (B : Nat) (k : Int) (w : World) (h : WLM B w L p t m) (h0 : 0 ≤ k) (h1 : k + meSz m ≤ 4611686018427387904) : GivesK L Try.prog 13 #[.agg #[p, t], Iv k] w (fun v w' => v = Iv (k + meSz m) ∧ Hang B w' (fun u => Sl RV3 3 u p (mkL fV 3 k m.places.length)) ∧ Hang B w' (fun u => Sl (RS RI 1) 1 u t (mkLL fI 1 (preK (k + (m.places.length : Int) * 3) m.tris) m.tris))) := by
  unfold meSz at h1
  obtain ⟨hL, L1, L2, hp, ht, s1, s2, hd⟩ := h
  obtain ⟨pp, qp, rfl⟩ := WL.shape' hp
  obtain ⟨pt, qt, rfl⟩ := WLL.shape ht
  refine enterK [(.agg #[(.slice pp m.places.length qp), (.slice pt m.tris.length qt)]), (Iv k), Ud, Ud, Ud, Ud, Ud, Ud, Ud, Ud, Ud, Ud, Ud, Ud] Try.func13 rfl Try.ntmps13 rfl ?_
  refine wp_seq_k fun K1 hK1 => ?_
  refine wp_region_lit ?_
  refine seqd rfl rfl (does_box (u := (.agg #[(.slice pp m.places.length qp), (.slice pt m.tris.length qt)])) (ev rfl)) ?_; rintro _ w6 ⟨b2, rfl, hb3, hB4, E5⟩
  have g7 : w.heap.size ≤ b2 := Nat.le_trans (KpL.size (KpL.refl L w)) hb3
  change Blk _ _ [(.slice pp m.places.length qp), (.slice pt m.tris.length qt)] at hB4
  have X8 := KpL.ext (KpL.refl L w) E5
  show wpList _ _ _ _ (fr [(.agg #[(.slice pp m.places.length qp), (.slice pt m.tris.length qt)]), (Iv k), (Pt b2 0), Ud, Ud, Ud, Ud, Ud, Ud, Ud, Ud, Ud, Ud, Ud]) _
  refine q_is (l' := [(.agg #[(.slice pp m.places.length qp), (.slice pt m.tris.length qt)]), (Iv k), (Pt b2 0), Ud, (Iv 0), Ud, Ud, Ud, Ud, Ud, Ud, Ud, Ud, Ud]) rfl rfl (does_assign (u := (Iv 0)) (ev rfl)) rfl ?_
  refine wpList_nil (hK1 _ _ ?_)
  refine wp_seq_k fun K9 hK9 => ?_
  refine wp_region_lit ?_
  refine q_is (l' := [(.agg #[(.slice pp m.places.length qp), (.slice pt m.tris.length qt)]), (Iv k), (Pt b2 0), Ud, (Iv 0), (Pt b2 0), Ud, Ud, Ud, Ud, Ud, Ud, Ud, Ud]) rfl rfl (does_fieldAddr (ev rfl) fa32_0) rfl ?_
  refine q_is (l' := [(.agg #[(.slice pp m.places.length qp), (.slice pt m.tris.length qt)]), (Iv k), (Pt b2 0), Ud, (Iv 0), (Pt b2 0), (.slice pp m.places.length qp), Ud, Ud, Ud, Ud, Ud, Ud, Ud]) rfl rfl (does_load (u := (.slice pp m.places.length qp)) (ev rfl) Try.isAgg30 (Cells.at (Blk.cells hB4) 0 rfl)) rfl ?_
  refine q_is (l' := [(.agg #[(.slice pp m.places.length qp), (.slice pt m.tris.length qt)]), (Iv k), (Pt b2 0), Ud, (Iv 0), (Pt b2 0), (.slice pp m.places.length qp), (Iv k), Ud, Ud, Ud, Ud, Ud, Ud]) rfl rfl (does_move (u := (Iv k)) (ev rfl)) rfl ?_
  refine seqd rfl rfl (does_callK (args := #[(.slice pp m.places.length qp), (Iv k)]) cal33 (evs rfl) (c_laws_markVectorS_mk (.slice pp m.places.length qp) m.places.length L1 B k _ (hp.same (Same.of_ext (Ext.gr (Ext.refl _) E5))) (by omega) (by omega))) ?_; rintro _ w10 ⟨K11, rfl, hM12⟩
  have X13 := KpL.more X8 K11 (fun c hc => .inl (s1 c hc))
  have ht2 := WLL.kl (ht.same (Same.of_ext (Ext.gr (Ext.refl _) E5))) K11 hd
  show wpList _ _ _ _ (fr [(.agg #[(.slice pp m.places.length qp), (.slice pt m.tris.length qt)]), (Iv k), (Pt b2 0), Ud, (Iv 0), (Pt b2 0), (.slice pp m.places.length qp), (Iv k), (Iv (k + (m.places.length : Int) * 3)), Ud, Ud, Ud, Ud, Ud]) _
  refine q_is (l' := [(.agg #[(.slice pp m.places.length qp), (.slice pt m.tris.length qt)]), (Iv (k + (m.places.length : Int) * 3)), (Pt b2 0), Ud, (Iv 0), (Pt b2 0), (.slice pp m.places.length qp), (Iv k), (Iv (k + (m.places.length : Int) * 3)), Ud, Ud, Ud, Ud, Ud]) rfl rfl (does_assign (u := (Iv (k + (m.places.length : Int) * 3))) (ev rfl)) rfl ?_
  refine wpList_nil (hK9 _ _ ?_)
  refine wp_seq_k fun K14 hK14 => ?_
  refine wp_region_lit ?_
  refine q_is (l' := [(.agg #[(.slice pp m.places.length qp), (.slice pt m.tris.length qt)]), (Iv (k + (m.places.length : Int) * 3)), (Pt b2 0), Ud, (Iv 0), (Pt b2 0), (.slice pp m.places.length qp), (Iv k), (Iv (k + (m.places.length : Int) * 3)), (Pt b2 1), Ud, Ud, Ud, Ud]) rfl rfl (does_fieldAddr (ev rfl) fa32_1) rfl ?_
  refine q_is (l' := [(.agg #[(.slice pp m.places.length qp), (.slice pt m.tris.length qt)]), (Iv (k + (m.places.length : Int) * 3)), (Pt b2 0), Ud, (Iv 0), (Pt b2 0), (.slice pp m.places.length qp), (Iv k), (Iv (k + (m.places.length : Int) * 3)), (Pt b2 1), (.slice pt m.tris.length qt), Ud, Ud, Ud]) rfl rfl (does_load (u := (.slice pt m.tris.length qt)) (ev rfl) Try.isAgg23 (Cells.at (Blk.cells (hB4.kl K11 (fun hc => absurd (Nat.lt_of_lt_of_le (hp.1 _ hc).2 (Nat.le_trans (Nat.le_refl _) hb3)) (Nat.lt_irrefl _)))) 1 rfl)) rfl ?_
  refine q_is (l' := [(.agg #[(.slice pp m.places.length qp), (.slice pt m.tris.length qt)]), (Iv (k + (m.places.length : Int) * 3)), (Pt b2 0), Ud, (Iv 0), (Pt b2 0), (.slice pp m.places.length qp), (Iv k), (Iv (k + (m.places.length : Int) * 3)), (Pt b2 1), (.slice pt m.tris.length qt), (Iv (k + (m.places.length : Int) * 3)), Ud, Ud]) rfl rfl (does_move (u := (Iv (k + (m.places.length : Int) * 3))) (ev rfl)) rfl ?_
  refine seqd rfl rfl (does_callK (args := #[(.slice pt m.tris.length qt), (Iv (k + (m.places.length : Int) * 3))]) cal34 (evs rfl) (c_laws_markInt64SS (.slice pt m.tris.length qt) m.tris L2 B (k + (m.places.length : Int) * 3) _ ht2 (by omega) (by omega))) ?_; rintro _ w15 ⟨K16, rfl, hM17⟩
  have X18 := KpL.more X13 K16 (fun c hc => .inl (s2 c hc))
  have hM2 := MkS.kl hM12 K16 (fun c hc => (hd c hc).1)
  show wpList _ _ _ _ (fr [(.agg #[(.slice pp m.places.length qp), (.slice pt m.tris.length qt)]), (Iv (k + (m.places.length : Int) * 3)), (Pt b2 0), Ud, (Iv 0), (Pt b2 0), (.slice pp m.places.length qp), (Iv k), (Iv (k + (m.places.length : Int) * 3)), (Pt b2 1), (.slice pt m.tris.length qt), (Iv (k + (m.places.length : Int) * 3)), (Iv ((k + (m.places.length : Int) * 3) + (liSum m.tris m.tris.length : Nat))), Ud]) _
  refine q_is (l' := [(.agg #[(.slice pp m.places.length qp), (.slice pt m.tris.length qt)]), (Iv ((k + (m.places.length : Int) * 3) + (liSum m.tris m.tris.length : Nat))), (Pt b2 0), Ud, (Iv 0), (Pt b2 0), (.slice pp m.places.length qp), (Iv k), (Iv (k + (m.places.length : Int) * 3)), (Pt b2 1), (.slice pt m.tris.length qt), (Iv (k + (m.places.length : Int) * 3)), (Iv ((k + (m.places.length : Int) * 3) + (liSum m.tris m.tris.length : Nat))), Ud]) rfl rfl (does_assign (u := (Iv ((k + (m.places.length : Int) * 3) + (liSum m.tris m.tris.length : Nat)))) (ev rfl)) rfl ?_
  refine wpList_nil (hK14 _ _ ?_)
  refine wp_seq_k fun K19 hK19 => ?_
  refine wp_region_lit ?_
  refine q_is (l' := [(.agg #[(.slice pp m.places.length qp), (.slice pt m.tris.length qt)]), (Iv ((k + (m.places.length : Int) * 3) + (liSum m.tris m.tris.length : Nat))), (Pt b2 0), Ud, (Iv 0), (Pt b2 0), (.slice pp m.places.length qp), (Iv k), (Iv (k + (m.places.length : Int) * 3)), (Pt b2 1), (.slice pt m.tris.length qt), (Iv (k + (m.places.length : Int) * 3)), (Iv ((k + (m.places.length : Int) * 3) + (liSum m.tris m.tris.length : Nat))), (Iv ((k + (m.places.length : Int) * 3) + (liSum m.tris m.tris.length : Nat)))]) rfl rfl (does_move (u := (Iv ((k + (m.places.length : Int) * 3) + (liSum m.tris m.tris.length : Nat)))) (ev rfl)) rfl ?_
  refine q_is (l' := [(.agg #[(.slice pp m.places.length qp), (.slice pt m.tris.length qt)]), (Iv ((k + (m.places.length : Int) * 3) + (liSum m.tris m.tris.length : Nat))), (Pt b2 0), Ud, (Iv ((k + (m.places.length : Int) * 3) + (liSum m.tris m.tris.length : Nat))), (Pt b2 0), (.slice pp m.places.length qp), (Iv k), (Iv (k + (m.places.length : Int) * 3)), (Pt b2 1), (.slice pt m.tris.length qt), (Iv (k + (m.places.length : Int) * 3)), (Iv ((k + (m.places.length : Int) * 3) + (liSum m.tris m.tris.length : Nat))), (Iv ((k + (m.places.length : Int) * 3) + (liSum m.tris m.tris.length : Nat)))]) rfl rfl (does_assign (u := (Iv ((k + (m.places.length : Int) * 3) + (liSum m.tris m.tris.length : Nat)))) (ev rfl)) rfl ?_
  refine wpList_nil (hK19 _ _ ?_)
  refine wp_ret ?_
  refine ret_valK (v := (Iv ((k + (m.places.length : Int) * 3) + (liSum m.tris m.tris.length : Nat)))) (res_T rfl (slot rfl)) X18 ?_
  exact ⟨by first | rfl | (show Value.int _ _ = Value.int _ _; congr 1; (try unfold meSz); omega), fun u hu => (hM2.same hu (fun c hc => (hp.1 c hc).1)).sl (by decide) (by omega) rV, hM17⟩

/- laws.heldInt64S -/
theorem c_laws_heldInt64S (a : Value) (L_a : List Int) (k : Int) (w : World) (hv_a : Sl RI 1 w a L_a) (hm : L_a = mkL fI 1 k L_a.length) (h0 : 0 ≤ k) (h1 : k + (L_a.length : Int) * 1 ≤ 4611686018427387904) : Gives Try.prog 15 #[a, (Iv k)] w (fun v w' => v = (Iv (k + (L_a.length : Int) * 1))) := by
  have hlen_a := Sl.len hv_a; obtain ⟨p_a, q_a, rfl⟩ := Sl.shape hv_a
  refine enter [(.slice p_a L_a.length q_a), (Iv k), Ud, Ud, Ud, Ud, Ud, Ud, Ud, Ud, Ud, Ud, Ud, Ud, Ud, Ud, Ud, Ud, Ud, Ud, Ud] Try.func15 rfl Try.ntmps15 rfl ?_
  refine wp_seq_k fun K1 hK1 => ?_
  refine wp_region_lit ?_
  refine q_is (l' := [(.slice p_a L_a.length q_a), (Iv k), Ud, Ud, (Iv 0), Ud, Ud, Ud, Ud, Ud, Ud, Ud, Ud, Ud, Ud, Ud, Ud, Ud, Ud, Ud, Ud]) rfl rfl (does_assign (u := (Iv 0)) (ev rfl)) rfl ?_
  refine wpList_nil (hK1 _ _ ?_)
  refine wp_seq_k fun K2 hK2 => ?_
  refine wp_seq_k fun K3 hK3 => ?_
  refine wp_region_lit ?_
  refine q_is (l' := [(.slice p_a L_a.length q_a), (Iv k), Ud, Ud, (Iv 0), (Iv 0), Ud, Ud, Ud, Ud, Ud, Ud, Ud, Ud, Ud, Ud, Ud, Ud, Ud, Ud, Ud]) rfl rfl (does_assign (u := (Iv 0)) (ev rfl)) rfl ?_
  refine wpList_nil (hK3 _ _ ?_)
  refine wp_block ?_
  refine loop_ghost (σ := Nat × Int) (fun s a w' => ∃ u4 : Nat → Value, a = fr [(.slice p_a L_a.length q_a), (Iv s.2), Ud, Ud, (u4 4), (Iv (s.1 : Int)), (u4 6), (u4 7), (u4 8), (u4 9), (u4 10), (u4 11), (u4 12), (u4 13), (u4 14), (u4 15), (u4 16), (u4 17), (u4 18), (u4 19), Ud] ∧ Ext w w' ∧ (s.1 ≤ L_a.length ∧ s.2 = k + (s.1 : Int) * 1)) (fun s => L_a.length - s.1) (0, k) ?_ ?_
  · refine ⟨fun t => (([(.slice p_a L_a.length q_a), (Iv k), Ud, Ud, (Iv 0), (Iv 0), Ud, Ud, Ud, Ud, Ud, Ud, Ud, Ud, Ud, Ud, Ud, Ud, Ud, Ud, Ud] : List Value)[t]?).getD undef, rfl, Ext.refl _, ?_⟩
    exact ⟨Nat.zero_le _, by simp⟩
  · rintro s a w5 ⟨u4, rfl, E6, ⟨hk, hn2⟩⟩
    have X8 := Ext.gr (Ext.refl w) E6
    refine wp_seq_k fun K9 hK9 => ?_
    refine wp_seq_k fun K10 hK10 => ?_
    refine wp_region_lit ?_
    refine q_is (l' := [(.slice p_a L_a.length q_a), (Iv s.2), Ud, Ud, (u4 4), (Iv (s.1 : Int)), (Iv (s.1 : Int)), (u4 7), (u4 8), (u4 9), (u4 10), (u4 11), (u4 12), (u4 13), (u4 14), (u4 15), (u4 16), (u4 17), (u4 18), (u4 19), Ud]) rfl rfl (does_move (u := (Iv (s.1 : Int))) (ev rfl)) rfl ?_
    refine q_is (l' := [(.slice p_a L_a.length q_a), (Iv s.2), Ud, Ud, (u4 4), (Iv (s.1 : Int)), (Iv (s.1 : Int)), (.slice p_a L_a.length q_a), (u4 8), (u4 9), (u4 10), (u4 11), (u4 12), (u4 13), (u4 14), (u4 15), (u4 16), (u4 17), (u4 18), (u4 19), Ud]) rfl rfl (does_move (u := (.slice p_a L_a.length q_a)) (ev rfl)) rfl ?_
    refine q_is (l' := [(.slice p_a L_a.length q_a), (Iv s.2), Ud, Ud, (u4 4), (Iv (s.1 : Int)), (Iv (s.1 : Int)), (.slice p_a L_a.length q_a), (Iv (L_a.length : Int)), (u4 9), (u4 10), (u4 11), (u4 12), (u4 13), (u4 14), (u4 15), (u4 16), (u4 17), (u4 18), (u4 19), Ud]) rfl rfl (does_len_slice Try.underlying27 (ev rfl)) rfl ?_
    refine q_is (l' := [(.slice p_a L_a.length q_a), (Iv s.2), Ud, Ud, (u4 4), (Iv (s.1 : Int)), (Iv (s.1 : Int)), (.slice p_a L_a.length q_a), (Iv (L_a.length : Int)), (Bo (icmp .lss (s.1 : Int) (L_a.length : Int))), (u4 10), (u4 11), (u4 12), (u4 13), (u4 14), (u4 15), (u4 16), (u4 17), (u4 18), (u4 19), Ud]) rfl rfl (does_icmp (p := (s.1 : Int)) (q := (L_a.length : Int)) (.inr (.inr (.inl rfl))) (ev rfl) (ev rfl)) rfl ?_
    refine wpList_nil (hK10 _ _ ?_)
    refine wp_cond_split (t := icmp .lss (s.1 : Int) (L_a.length : Int)) (ev rfl) (fun c11 => ?_) (fun c11 => ?_)
    · have c11' := c11
      (try simp only [icmp, Bool.and_eq_true, Bool.or_eq_true, Bool.and_eq_false_iff, Bool.or_eq_false_iff, Bool.not_eq_true', Bool.not_eq_false', decide_eq_true_eq, decide_eq_false_iff_not, beq_iff_eq, bne_iff_ne, beq_eq_false_iff_ne, bne_eq_false_iff_eq] at c11')
      refine wp_skip (hK9 _ _ ?_)
      refine wp_seq_k fun K12 hK12 => ?_
      refine wp_block ?_
      refine wp_seq_k fun K13 hK13 => ?_
      refine wp_seq_k fun K14 hK14 => ?_
      refine wp_region_lit ?_
      refine q_is (l' := [(.slice p_a L_a.length q_a), (Iv s.2), Ud, Ud, (u4 4), (Iv (s.1 : Int)), (Iv (s.1 : Int)), (.slice p_a L_a.length q_a), (Iv (L_a.length : Int)), (Bo (icmp .lss (s.1 : Int) (L_a.length : Int))), (u4 10), (u4 11), (.slice p_a L_a.length q_a), (u4 13), (u4 14), (u4 15), (u4 16), (u4 17), (u4 18), (u4 19), Ud]) rfl rfl (does_move (u := (.slice p_a L_a.length q_a)) (ev rfl)) rfl ?_
      refine q_is (l' := [(.slice p_a L_a.length q_a), (Iv s.2), Ud, Ud, (u4 4), (Iv (s.1 : Int)), (Iv (s.1 : Int)), (.slice p_a L_a.length q_a), (Iv (L_a.length : Int)), (Bo (icmp .lss (s.1 : Int) (L_a.length : Int))), (u4 10), (u4 11), (.slice p_a L_a.length q_a), (Iv (s.1 : Int)), (u4 14), (u4 15), (u4 16), (u4 17), (u4 18), (u4 19), Ud]) rfl rfl (does_move (u := (Iv (s.1 : Int))) (ev rfl)) rfl ?_
      obtain ⟨el1, hel1⟩ : ∃ e, L_a[s.1]? = some e := ⟨_, List.getElem?_eq_getElem (by omega)⟩
      refine seqd rfl rfl (does_indexSl (R := RI) (i := (s.1 : Int)) (xs := L_a) (e := el1) Try.underlying27 Try.sizeOf2 (ev rfl) (ev rfl) (Sl.ext hv_a RI.mono X8) (by omega) hel1) ?_; rintro _ w5 ⟨b15, o16, _, rfl, hc18, rfl, rfl⟩
      show wpList _ _ _ _ (fr [(.slice p_a L_a.length q_a), (Iv s.2), Ud, Ud, (u4 4), (Iv (s.1 : Int)), (Iv (s.1 : Int)), (.slice p_a L_a.length q_a), (Iv (L_a.length : Int)), (Bo (icmp .lss (s.1 : Int) (L_a.length : Int))), (u4 10), (u4 11), (.slice p_a L_a.length q_a), (Iv (s.1 : Int)), (Pt b15 o16), (u4 15), (u4 16), (u4 17), (u4 18), (u4 19), Ud]) _
      refine q_is (l' := [(.slice p_a L_a.length q_a), (Iv s.2), Ud, Ud, (u4 4), (Iv (s.1 : Int)), (Iv (s.1 : Int)), (.slice p_a L_a.length q_a), (Iv (L_a.length : Int)), (Bo (icmp .lss (s.1 : Int) (L_a.length : Int))), (u4 10), (u4 11), (.slice p_a L_a.length q_a), (Iv (s.1 : Int)), (Pt b15 o16), (Iv el1), (u4 16), (u4 17), (u4 18), (u4 19), Ud]) rfl rfl (does_load (u := (Iv el1)) (ev rfl) Try.isAgg2 (Cells.at hc18 0 rfl)) rfl ?_
      refine q_is (l' := [(.slice p_a L_a.length q_a), (Iv s.2), Ud, Ud, (u4 4), (Iv (s.1 : Int)), (Iv (s.1 : Int)), (.slice p_a L_a.length q_a), (Iv (L_a.length : Int)), (Bo (icmp .lss (s.1 : Int) (L_a.length : Int))), (u4 10), (u4 11), (.slice p_a L_a.length q_a), (Iv (s.1 : Int)), (Pt b15 o16), (Iv el1), (Iv s.2), (u4 17), (u4 18), (u4 19), Ud]) rfl rfl (does_move (u := (Iv s.2)) (ev rfl)) rfl ?_
      refine q_is (l' := [(.slice p_a L_a.length q_a), (Iv s.2), Ud, Ud, (u4 4), (Iv (s.1 : Int)), (Iv (s.1 : Int)), (.slice p_a L_a.length q_a), (Iv (L_a.length : Int)), (Bo (icmp .lss (s.1 : Int) (L_a.length : Int))), (u4 10), (u4 11), (.slice p_a L_a.length q_a), (Iv (s.1 : Int)), (Pt b15 o16), (Iv el1), (Iv s.2), (Bo (icmp .neq el1 s.2)), (u4 18), (u4 19), Ud]) rfl rfl (does_icmp (p := el1) (q := s.2) (.inr (.inl rfl)) (ev rfl) (ev rfl)) rfl ?_
      refine wpList_nil (hK14 _ _ ?_)
      refine wp_cond_split (t := icmp .neq el1 s.2) (ev rfl) (fun c19 => ?_) (fun c19 => ?_)
      · have c19' := c19
        (try simp only [icmp, Bool.and_eq_true, Bool.or_eq_true, Bool.and_eq_false_iff, Bool.or_eq_false_iff, Bool.not_eq_true', Bool.not_eq_false', decide_eq_true_eq, decide_eq_false_iff_not, beq_iff_eq, bne_iff_ne, beq_eq_false_iff_ne, bne_eq_false_iff_eq] at c19')
        exfalso; have he := mkL_at hm hel1; subst he; simp only [fI, icmp, bne_iff_ne, ne_eq] at c19; omega
      have c19' := c19
      (try simp only [icmp, Bool.and_eq_true, Bool.or_eq_true, Bool.and_eq_false_iff, Bool.or_eq_false_iff, Bool.not_eq_true', Bool.not_eq_false', decide_eq_true_eq, decide_eq_false_iff_not, beq_iff_eq, bne_iff_ne, beq_eq_false_iff_ne, bne_eq_false_iff_eq] at c19')
      refine wp_skip (hK13 _ _ ?_)
      refine wp_region_lit ?_
      refine q_is (l' := [(.slice p_a L_a.length q_a), (Iv s.2), Ud, Ud, (u4 4), (Iv (s.1 : Int)), (Iv (s.1 : Int)), (.slice p_a L_a.length q_a), (Iv (L_a.length : Int)), (Bo (icmp .lss (s.1 : Int) (L_a.length : Int))), (u4 10), (u4 11), (.slice p_a L_a.length q_a), (Iv (s.1 : Int)), (Pt b15 o16), (Iv el1), (Iv s.2), (Bo (icmp .neq el1 s.2)), (Iv s.2), (u4 19), Ud]) rfl rfl (does_move (u := (Iv s.2)) (ev rfl)) rfl ?_
      refine q_is (l' := [(.slice p_a L_a.length q_a), (Iv s.2), Ud, Ud, (u4 4), (Iv (s.1 : Int)), (Iv (s.1 : Int)), (.slice p_a L_a.length q_a), (Iv (L_a.length : Int)), (Bo (icmp .lss (s.1 : Int) (L_a.length : Int))), (u4 10), (u4 11), (.slice p_a L_a.length q_a), (Iv (s.1 : Int)), (Pt b15 o16), (Iv el1), (Iv s.2), (Bo (icmp .neq el1 s.2)), (Iv s.2), (Iv (s.2 + 1)), Ud]) rfl rfl (does_iarith (p := s.2) (q := 1) (r := s.2 + 1) (ev rfl) (ev rfl) (.inl ⟨rfl, (in_i64 (by omega) (by omega)).symm⟩)) rfl ?_
      refine q_is (l' := [(.slice p_a L_a.length q_a), (Iv (s.2 + 1)), Ud, Ud, (u4 4), (Iv (s.1 : Int)), (Iv (s.1 : Int)), (.slice p_a L_a.length q_a), (Iv (L_a.length : Int)), (Bo (icmp .lss (s.1 : Int) (L_a.length : Int))), (u4 10), (u4 11), (.slice p_a L_a.length q_a), (Iv (s.1 : Int)), (Pt b15 o16), (Iv el1), (Iv s.2), (Bo (icmp .neq el1 s.2)), (Iv s.2), (Iv (s.2 + 1)), Ud]) rfl rfl (does_assign (u := (Iv (s.2 + 1))) (ev rfl)) rfl ?_
      refine wpList_nil (hK12 _ _ ?_)
      refine wp_region_lit ?_
      refine q_is (l' := [(.slice p_a L_a.length q_a), (Iv (s.2 + 1)), Ud, Ud, (u4 4), (Iv (s.1 : Int)), (Iv (s.1 : Int)), (.slice p_a L_a.length q_a), (Iv (L_a.length : Int)), (Bo (icmp .lss (s.1 : Int) (L_a.length : Int))), (Iv (s.1 : Int)), (u4 11), (.slice p_a L_a.length q_a), (Iv (s.1 : Int)), (Pt b15 o16), (Iv el1), (Iv s.2), (Bo (icmp .neq el1 s.2)), (Iv s.2), (Iv (s.2 + 1)), Ud]) rfl rfl (does_move (u := (Iv (s.1 : Int))) (ev rfl)) rfl ?_
      refine q_is (l' := [(.slice p_a L_a.length q_a), (Iv (s.2 + 1)), Ud, Ud, (u4 4), (Iv (s.1 : Int)), (Iv (s.1 : Int)), (.slice p_a L_a.length q_a), (Iv (L_a.length : Int)), (Bo (icmp .lss (s.1 : Int) (L_a.length : Int))), (Iv (s.1 : Int)), (Iv ((s.1 : Int) + 1)), (.slice p_a L_a.length q_a), (Iv (s.1 : Int)), (Pt b15 o16), (Iv el1), (Iv s.2), (Bo (icmp .neq el1 s.2)), (Iv s.2), (Iv (s.2 + 1)), Ud]) rfl rfl (does_iarith (p := (s.1 : Int)) (q := 1) (r := (s.1 : Int) + 1) (ev rfl) (ev rfl) (.inl ⟨rfl, (in_i64 (by omega) (by omega)).symm⟩)) rfl ?_
      refine q_is (l' := [(.slice p_a L_a.length q_a), (Iv (s.2 + 1)), Ud, Ud, (u4 4), (Iv ((s.1 : Int) + 1)), (Iv (s.1 : Int)), (.slice p_a L_a.length q_a), (Iv (L_a.length : Int)), (Bo (icmp .lss (s.1 : Int) (L_a.length : Int))), (Iv (s.1 : Int)), (Iv ((s.1 : Int) + 1)), (.slice p_a L_a.length q_a), (Iv (s.1 : Int)), (Pt b15 o16), (Iv el1), (Iv s.2), (Bo (icmp .neq el1 s.2)), (Iv s.2), (Iv (s.2 + 1)), Ud]) rfl rfl (does_assign (u := (Iv ((s.1 : Int) + 1))) (ev rfl)) rfl ?_
      refine wpList_nil ?_
      refine ⟨(s.1 + 1, s.2 + 1), ⟨fun t => (([(.slice p_a L_a.length q_a), (Iv (s.2 + 1)), Ud, Ud, (u4 4), (Iv ((s.1 : Int) + 1)), (Iv (s.1 : Int)), (.slice p_a L_a.length q_a), (Iv (L_a.length : Int)), (Bo (icmp .lss (s.1 : Int) (L_a.length : Int))), (Iv (s.1 : Int)), (Iv ((s.1 : Int) + 1)), (.slice p_a L_a.length q_a), (Iv (s.1 : Int)), (Pt b15 o16), (Iv el1), (Iv s.2), (Bo (icmp .neq el1 s.2)), (Iv s.2), (Iv (s.2 + 1)), Ud] : List Value)[t]?).getD undef, ?_, E6, ?_⟩, ?_⟩
      · first | rfl | (simp only [Int.natCast_add, Int.natCast_one]; rfl)
      · (try dsimp only); exact ⟨by omega, by (try dsimp only); omega⟩
      · (try dsimp only); omega
    have c11' := c11
    (try simp only [icmp, Bool.and_eq_true, Bool.or_eq_true, Bool.and_eq_false_iff, Bool.or_eq_false_iff, Bool.not_eq_true', Bool.not_eq_false', decide_eq_true_eq, decide_eq_false_iff_not, beq_iff_eq, bne_iff_ne, beq_eq_false_iff_ne, bne_eq_false_iff_eq] at c11')
    refine wp_exit ?_
    refine hK2 _ _ ?_
    refine wp_seq_k fun K20 hK20 => ?_
    refine wp_region_lit ?_
    refine q_is (l' := [(.slice p_a L_a.length q_a), (Iv s.2), Ud, Ud, (u4 4), (Iv (s.1 : Int)), (Iv (s.1 : Int)), (.slice p_a L_a.length q_a), (Iv (L_a.length : Int)), (Bo (icmp .lss (s.1 : Int) (L_a.length : Int))), (u4 10), (u4 11), (u4 12), (u4 13), (u4 14), (u4 15), (u4 16), (u4 17), (u4 18), (u4 19), (Iv s.2)]) rfl rfl (does_move (u := (Iv s.2)) (ev rfl)) rfl ?_
    refine q_is (l' := [(.slice p_a L_a.length q_a), (Iv s.2), Ud, Ud, (Iv s.2), (Iv (s.1 : Int)), (Iv (s.1 : Int)), (.slice p_a L_a.length q_a), (Iv (L_a.length : Int)), (Bo (icmp .lss (s.1 : Int) (L_a.length : Int))), (u4 10), (u4 11), (u4 12), (u4 13), (u4 14), (u4 15), (u4 16), (u4 17), (u4 18), (u4 19), (Iv s.2)]) rfl rfl (does_assign (u := (Iv s.2)) (ev rfl)) rfl ?_
    refine wpList_nil (hK20 _ _ ?_)
    refine wp_ret ?_
    refine ret_val (v := (Iv s.2)) (res_T rfl (slot rfl)) X8 ?_
    have x21 : (k + (L_a.length : Int) * 1 : Int) = s.2 := by first | omega | (rw [hn2, show s.1 = L_a.length by omega])
    exact (by first | with_reducible rfl | rw [x21] | rfl)

end Go.Proofs.Ytoblnfkpjgghiaa
