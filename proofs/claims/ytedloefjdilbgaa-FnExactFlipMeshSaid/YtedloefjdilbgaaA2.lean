/- contracts of functions, each walked once -/
import Derived.Test.YtedloefjdilbgaaA
namespace Go.Proofs.Ytedloefjdilbgaa
open Go Go.RowKit
set_option maxRecDepth 100000
set_option maxHeartbeats 3200000
set_option linter.unusedVariables false
set_option linter.unusedSimpArgs false

/- impl.isTriangle -/
theorem c_impl_isTriangle (t_ : Value) (L_t_ : List Int) (n_ : Int) (w : World) (hv_t_ : Sl RI 1 w t_ L_t_) : Gives Try.prog 31 #[t_, (Iv n_)] w (fun v w' => v = (Bo (triOk n_ L_t_))) := by
  have hlen_t_ := Sl.len hv_t_; obtain ⟨p_t_, q_t_, rfl⟩ := Sl.shape hv_t_
  refine enter [(.slice p_t_ L_t_.length q_t_), (Iv n_), Ud, Ud, Ud, Ud, Ud, Ud, Ud, Ud, Ud, Ud, Ud, Ud, Ud, Ud, Ud, Ud, Ud, Ud, Ud, Ud, Ud, Ud, Ud, Ud, Ud, Ud, Ud, Ud, Ud, Ud, Ud, Ud, Ud, Ud, Ud, Ud, Ud] Try.func31 rfl Try.ntmps31 rfl ?_
  refine wp_seq_k fun K1 hK1 => ?_
  refine wp_region_lit ?_
  refine seqd rfl rfl (does_box (u := (Iv n_)) (ev rfl)) ?_; rintro _ w6 ⟨b2, rfl, hb3, hB4, E5⟩
  have g7 : w.heap.size ≤ b2 := Nat.le_trans (Below.size (Ext.refl w)) hb3
  change Blk _ _ [(Iv n_)] at hB4
  have X8 := Ext.gr (Ext.refl w) E5
  show wpList _ _ _ _ (fr [_, _, _, _, _, _, _, _, _, _, _, _, _, _, _, _, _, _, _, _, _, _, _, _, _, _, _, _, _, _, _, _, _, _, _, _, _, _, _]) _
  refine q_is rfl rfl (does_assign (u := (Bo false)) (ev rfl)) (by dsimp only [List.set]; try rfl) ?_
  refine wpList_nil (hK1 _ _ ?_)
  refine wp_seq_k fun K9 hK9 => ?_
  refine wp_seq_k fun K10 hK10 => ?_
  obtain ⟨β1, hβ1⟩ : ∃ b : Bool, b = (icmp .neq (L_t_.length : Int) 3) := ⟨_, rfl⟩
  obtain ⟨el1, hel1⟩ := exists_el (0 : Int) L_t_ 0
  obtain ⟨el2, hel2⟩ := exists_el (0 : Int) L_t_ 1
  obtain ⟨β2, hβ2⟩ : ∃ b : Bool, b = (β1 || (icmp .eql el1 el2)) := ⟨_, rfl⟩
  obtain ⟨el3, hel3⟩ := exists_el (0 : Int) L_t_ 2
  obtain ⟨β3, hβ3⟩ : ∃ b : Bool, b = (β2 || (icmp .eql el2 el3)) := ⟨_, rfl⟩
  obtain ⟨β4, hβ4⟩ : ∃ b : Bool, b = (β3 || (icmp .eql el3 el1)) := ⟨_, rfl⟩
  refine region_draw (
    [Fact.pure [] (fun v => v = (.slice p_t_ L_t_.length q_t_)),
    Fact.pure [5] (fun v => v = (Iv (L_t_.length : Int))),
    Fact.pure [6] (fun v => v = (Bo β1)),
    Fact.pure [7] (fun v => v = (Bo β1)),
    Fact.pure [8] (fun v => β1 = false → v = (.slice p_t_ L_t_.length q_t_)),
    Fact.mem [9, 8] (fun v w' => β1 = false → PtrR RI w' v el1) (by intro v w1 w2 hx h; exact fun hg1 => (h hg1).ext RI.mono hx),
    Fact.pure [10, 8] (fun v => β1 = false → v = (Iv el1)),
    Fact.pure [8] (fun v => β1 = false → v = (.slice p_t_ L_t_.length q_t_)),
    Fact.mem [12, 8] (fun v w' => β1 = false → PtrR RI w' v el2) (by intro v w1 w2 hx h; exact fun hg1 => (h hg1).ext RI.mono hx),
    Fact.pure [13, 8] (fun v => β1 = false → v = (Iv el2)),
    Fact.pure [11, 14, 8] (fun v => β1 = false → v = (Bo (icmp .eql el1 el2))),
    Fact.pure [8, 15] (fun v => v = (Bo β2)),
    Fact.pure [16] (fun v => v = (Bo β2)),
    Fact.pure [17] (fun v => β2 = false → v = (.slice p_t_ L_t_.length q_t_)),
    Fact.mem [18, 17] (fun v w' => β2 = false → PtrR RI w' v el2) (by intro v w1 w2 hx h; exact fun hg1 => (h hg1).ext RI.mono hx),
    Fact.pure [19, 17] (fun v => β2 = false → v = (Iv el2)),
    Fact.pure [17] (fun v => β2 = false → v = (.slice p_t_ L_t_.length q_t_)),
    Fact.mem [21, 17] (fun v w' => β2 = false → PtrR RI w' v el3) (by intro v w1 w2 hx h; exact fun hg1 => (h hg1).ext RI.mono hx),
    Fact.pure [22, 17] (fun v => β2 = false → v = (Iv el3)),
    Fact.pure [20, 23, 17] (fun v => β2 = false → v = (Bo (icmp .eql el2 el3))),
    Fact.pure [17, 24] (fun v => v = (Bo β3)),
    Fact.pure [25] (fun v => v = (Bo β3)),
    Fact.pure [26] (fun v => β3 = false → v = (.slice p_t_ L_t_.length q_t_)),
    Fact.mem [27, 26] (fun v w' => β3 = false → PtrR RI w' v el3) (by intro v w1 w2 hx h; exact fun hg1 => (h hg1).ext RI.mono hx),
    Fact.pure [28, 26] (fun v => β3 = false → v = (Iv el3)),
    Fact.pure [26] (fun v => β3 = false → v = (.slice p_t_ L_t_.length q_t_)),
    Fact.mem [30, 26] (fun v w' => β3 = false → PtrR RI w' v el1) (by intro v w1 w2 hx h; exact fun hg1 => (h hg1).ext RI.mono hx),
    Fact.pure [31, 26] (fun v => β3 = false → v = (Iv el1)),
    Fact.pure [29, 32, 26] (fun v => β3 = false → v = (Bo (icmp .eql el3 el1))),
    Fact.pure [26, 33] (fun v => v = (Bo β4))]) mixed (by kernel_rfl) (by intro _ _ d _ _ h; cases d <;> exact h) ?_
  obtain ⟨w11, hw13⟩ : ∃ w', w' = World.drew w6 := ⟨_, rfl⟩; rw [← hw13]; have E12 : Ext w6 w11 := by rw [hw13]; exact Ext.draw _
  clear hw13
  have X14 := Ext.gr X8 E12
  refine RW_d _ rfl (fun v => by dsimp only [List.set]; try rfl) (fun u hu hF => ?_) (fun v15 => ?_)
  · clear hF
    refine doesG_un rfl ?_
    refine (does_move (u := (.slice p_t_ L_t_.length q_t_)) (ev rfl)).mono ?_; rintro _ _ ⟨rfl, rfl⟩
    exact ⟨rfl, Ext.refl _⟩
  refine RW_d _ rfl (fun v => by dsimp only [List.set]; try rfl) (fun u hu hF => ?_) (fun v16 => ?_)
  · have h5_ : v15 = (.slice p_t_ L_t_.length q_t_) := hF.1
    clear hF
    refine doesG_un rfl ?_
    obtain rfl := h5_
    refine (does_len_slice Try.underlying40 (ev rfl)).mono ?_; rintro _ _ ⟨rfl, rfl⟩
    exact ⟨rfl, Ext.refl _⟩
  refine RW_d _ rfl (fun v => by dsimp only [List.set]; try rfl) (fun u hu hF => ?_) (fun v17 => ?_)
  · have h6_ : v16 = (Iv (L_t_.length : Int)) := hF.1
    clear hF
    refine doesG_un rfl ?_
    obtain rfl := h6_
    refine (does_icmp (p := (L_t_.length : Int)) (q := 3) (.inr (.inl rfl)) (ev rfl) (ev rfl)).mono ?_; rintro _ _ ⟨rfl, rfl⟩
    exact ⟨(by first | rfl | (show _ = _; simp only [hβ1]; done) | (show _ = _; simp only [hβ1]; rfl)), Ext.refl _⟩
  refine RW_d _ rfl (fun v => by dsimp only [List.set]; try rfl) (fun u hu hF => ?_) (fun v18 => ?_)
  · have h7_ : v17 = (Bo β1) := hF.1
    clear hF
    refine doesG_un rfl ?_
    obtain rfl := h7_
    refine (does_move (u := (Bo β1)) (ev rfl)).mono ?_; rintro _ _ ⟨rfl, rfl⟩
    exact ⟨rfl, Ext.refl _⟩
  refine RW_d _ rfl (fun v => by dsimp only [List.set]; try rfl) (fun u hu hF => ?_) (fun v19 => ?_)
  · have h8_ : v18 = (Bo β1) := hF.1
    clear hF
    obtain rfl := h8_
    refine doesG_g (b := β1) rfl (yld rfl rfl) (fun hg1 => ?_) (fun hc => ⟨fun hg1 => absurd hg1 hc, Ext.refl _⟩)
    refine (does_move (u := (.slice p_t_ L_t_.length q_t_)) (ev rfl)).mono ?_; rintro _ _ ⟨rfl, rfl⟩
    exact ⟨fun _ => rfl, Ext.refl _⟩
  refine RW_d _ rfl (fun v => by dsimp only [List.set]; try rfl) (fun u hu hF => ?_) (fun v20 => ?_)
  · have h9_ : β1 = false → v19 = (.slice p_t_ L_t_.length q_t_) := hF.1
    have h8_ : v18 = (Bo β1) := hF.2.1
    clear hF
    obtain rfl := h8_
    refine doesG_g (b := β1) rfl (yld rfl rfl) (fun hg1 => ?_) (fun hc => ⟨fun hg1 => absurd hg1 hc, Ext.refl _⟩)
    obtain rfl := h9_ hg1
    refine (does_indexSl (R := RI) (i := 0) (xs := L_t_) (e := el1) Try.underlying40 Try.sizeOf2 (ev rfl) (ev rfl) (Sl.ext (Sl.ext hv_t_ RI.mono (Ext.gr X8 E12)) RI.mono hu) (by first | omega | (simp only [hβ1, icmp, Bool.or_eq_false_iff, Bool.not_eq_false', Bool.not_eq_true', decide_eq_true_eq, decide_eq_false_iff_not, bne_eq_false_iff_eq] at hg1; omega) | (simp only [hβ1, icmp, Bool.or_eq_false_iff, Bool.not_eq_false', Bool.not_eq_true', decide_eq_true_eq, decide_eq_false_iff_not, bne_eq_false_iff_eq] at hg1 hg2; omega)) (hel1 (by first | omega | (simp only [hβ1, icmp, Bool.or_eq_false_iff, Bool.not_eq_false', Bool.not_eq_true', bne_eq_false_iff_eq] at hg1; omega)))).mono ?_; rintro v u' ⟨b, of, cs, hv, hc, hR, hu'⟩; subst hu'
    exact ⟨fun _ => ⟨b, of, cs, hv, hc, hR⟩, Ext.refl _⟩
  refine RW_d _ rfl (fun v => by dsimp only [List.set]; try rfl) (fun u hu hF => ?_) (fun v21 => ?_)
  · have h10_ : β1 = false → PtrR RI u v20 el1 := hF.1
    have h8_ : v18 = (Bo β1) := hF.2.1
    clear hF
    obtain rfl := h8_
    refine doesG_g (b := β1) rfl (yld rfl rfl) (fun hg1 => ?_) (fun hc => ⟨fun hg1 => absurd hg1 hc, Ext.refl _⟩)
    obtain ⟨b10_, o10_, _, rfl, hc10_, rfl⟩ := h10_ hg1
    refine (does_load (u := (Iv el1)) (ev rfl) Try.isAgg2 (Cells.at hc10_ 0 rfl)).mono ?_; rintro _ _ ⟨rfl, rfl⟩
    exact ⟨fun _ => rfl, Ext.refl _⟩
  refine RW_d _ rfl (fun v => by dsimp only [List.set]; try rfl) (fun u hu hF => ?_) (fun v22 => ?_)
  · have h8_ : v18 = (Bo β1) := hF.1
    clear hF
    obtain rfl := h8_
    refine doesG_g (b := β1) rfl (yld rfl rfl) (fun hg1 => ?_) (fun hc => ⟨fun hg1 => absurd hg1 hc, Ext.refl _⟩)
    refine (does_move (u := (.slice p_t_ L_t_.length q_t_)) (ev rfl)).mono ?_; rintro _ _ ⟨rfl, rfl⟩
    exact ⟨fun _ => rfl, Ext.refl _⟩
  refine RW_d _ rfl (fun v => by dsimp only [List.set]; try rfl) (fun u hu hF => ?_) (fun v23 => ?_)
  · have h12_ : β1 = false → v22 = (.slice p_t_ L_t_.length q_t_) := hF.1
    have h8_ : v18 = (Bo β1) := hF.2.1
    clear hF
    obtain rfl := h8_
    refine doesG_g (b := β1) rfl (yld rfl rfl) (fun hg1 => ?_) (fun hc => ⟨fun hg1 => absurd hg1 hc, Ext.refl _⟩)
    obtain rfl := h12_ hg1
    refine (does_indexSl (R := RI) (i := 1) (xs := L_t_) (e := el2) Try.underlying40 Try.sizeOf2 (ev rfl) (ev rfl) (Sl.ext (Sl.ext hv_t_ RI.mono (Ext.gr X8 E12)) RI.mono hu) (by first | omega | (simp only [hβ1, icmp, Bool.or_eq_false_iff, Bool.not_eq_false', Bool.not_eq_true', decide_eq_true_eq, decide_eq_false_iff_not, bne_eq_false_iff_eq] at hg1; omega) | (simp only [hβ1, icmp, Bool.or_eq_false_iff, Bool.not_eq_false', Bool.not_eq_true', decide_eq_true_eq, decide_eq_false_iff_not, bne_eq_false_iff_eq] at hg1 hg2; omega)) (hel2 (by first | omega | (simp only [hβ1, icmp, Bool.or_eq_false_iff, Bool.not_eq_false', Bool.not_eq_true', bne_eq_false_iff_eq] at hg1; omega)))).mono ?_; rintro v u' ⟨b, of, cs, hv, hc, hR, hu'⟩; subst hu'
    exact ⟨fun _ => ⟨b, of, cs, hv, hc, hR⟩, Ext.refl _⟩
  refine RW_d _ rfl (fun v => by dsimp only [List.set]; try rfl) (fun u hu hF => ?_) (fun v24 => ?_)
  · have h13_ : β1 = false → PtrR RI u v23 el2 := hF.1
    have h8_ : v18 = (Bo β1) := hF.2.1
    clear hF
    obtain rfl := h8_
    refine doesG_g (b := β1) rfl (yld rfl rfl) (fun hg1 => ?_) (fun hc => ⟨fun hg1 => absurd hg1 hc, Ext.refl _⟩)
    obtain ⟨b13_, o13_, _, rfl, hc13_, rfl⟩ := h13_ hg1
    refine (does_load (u := (Iv el2)) (ev rfl) Try.isAgg2 (Cells.at hc13_ 0 rfl)).mono ?_; rintro _ _ ⟨rfl, rfl⟩
    exact ⟨fun _ => rfl, Ext.refl _⟩
  refine RW_d _ rfl (fun v => by dsimp only [List.set]; try rfl) (fun u hu hF => ?_) (fun v25 => ?_)
  · have h11_ : β1 = false → v21 = (Iv el1) := hF.1
    have h14_ : β1 = false → v24 = (Iv el2) := hF.2.1
    have h8_ : v18 = (Bo β1) := hF.2.2.1
    clear hF
    obtain rfl := h8_
    refine doesG_g (b := β1) rfl (yld rfl rfl) (fun hg1 => ?_) (fun hc => ⟨fun hg1 => absurd hg1 hc, Ext.refl _⟩)
    obtain rfl := h11_ hg1
    obtain rfl := h14_ hg1
    refine (does_icmp (p := el1) (q := el2) (.inl rfl) (ev rfl) (ev rfl)).mono ?_; rintro _ _ ⟨rfl, rfl⟩
    exact ⟨fun _ => rfl, Ext.refl _⟩
  refine RW_d _ rfl (fun v => by dsimp only [List.set]; try rfl) (fun u hu hF => ?_) (fun v26 => ?_)
  · have h8_ : v18 = (Bo β1) := hF.1
    have h15_ : β1 = false → v25 = (Bo (icmp .eql el1 el2)) := hF.2.1
    clear hF
    refine doesG_un rfl ?_
    skip
    obtain rfl := h8_
    refine (does_pick (b := β1) (u := (Bo true)) (v := v25) (ev rfl) (ev rfl) (ev rfl)).mono ?_; rintro _ _ ⟨rfl, rfl⟩; refine ⟨?_, Ext.refl _⟩; rw [hβ2]; skip
    cases hbb : β1
    all_goals first | (show _ = _; simp only [↓reduceIte, Bool.true_and, Bool.false_and, Bool.true_or, Bool.false_or, Bool.false_eq_true]; done) | (have e_ := h15_ hbb; subst e_; show _ = _; simp only [↓reduceIte, Bool.true_and, Bool.false_and, Bool.true_or, Bool.false_or, Bool.false_eq_true]; done) | rfl | (have e_ := h15_ hbb; subst e_; rfl) | (simp [hbb] at h15_ ⊢; first | done | rfl | (subst h15_; rfl) | simp_all) | (simp [hbb] at h15_ ⊢; done)
  refine RW_d _ rfl (fun v => by dsimp only [List.set]; try rfl) (fun u hu hF => ?_) (fun v27 => ?_)
  · have h16_ : v26 = (Bo β2) := hF.1
    clear hF
    refine doesG_un rfl ?_
    obtain rfl := h16_
    refine (does_move (u := (Bo β2)) (ev rfl)).mono ?_; rintro _ _ ⟨rfl, rfl⟩
    exact ⟨rfl, Ext.refl _⟩
  refine RW_d _ rfl (fun v => by dsimp only [List.set]; try rfl) (fun u hu hF => ?_) (fun v28 => ?_)
  · have h17_ : v27 = (Bo β2) := hF.1
    clear hF
    obtain rfl := h17_
    refine doesG_g (b := β2) rfl (yld rfl rfl) (fun hg1 => ?_) (fun hc => ⟨fun hg1 => absurd hg1 hc, Ext.refl _⟩)
    refine (does_move (u := (.slice p_t_ L_t_.length q_t_)) (ev rfl)).mono ?_; rintro _ _ ⟨rfl, rfl⟩
    exact ⟨fun _ => rfl, Ext.refl _⟩
  refine RW_d _ rfl (fun v => by dsimp only [List.set]; try rfl) (fun u hu hF => ?_) (fun v29 => ?_)
  · have h18_ : β2 = false → v28 = (.slice p_t_ L_t_.length q_t_) := hF.1
    have h17_ : v27 = (Bo β2) := hF.2.1
    clear hF
    obtain rfl := h17_
    refine doesG_g (b := β2) rfl (yld rfl rfl) (fun hg1 => ?_) (fun hc => ⟨fun hg1 => absurd hg1 hc, Ext.refl _⟩)
    obtain rfl := h18_ hg1
    refine (does_indexSl (R := RI) (i := 1) (xs := L_t_) (e := el2) Try.underlying40 Try.sizeOf2 (ev rfl) (ev rfl) (Sl.ext (Sl.ext hv_t_ RI.mono (Ext.gr X8 E12)) RI.mono hu) (by first | omega | (simp only [hβ1, hβ2, icmp, Bool.or_eq_false_iff, Bool.not_eq_false', Bool.not_eq_true', decide_eq_true_eq, decide_eq_false_iff_not, bne_eq_false_iff_eq] at hg1; omega) | (simp only [hβ1, hβ2, icmp, Bool.or_eq_false_iff, Bool.not_eq_false', Bool.not_eq_true', decide_eq_true_eq, decide_eq_false_iff_not, bne_eq_false_iff_eq] at hg1 hg2; omega)) (hel2 (by first | omega | (simp only [hβ1, hβ2, icmp, Bool.or_eq_false_iff, Bool.not_eq_false', Bool.not_eq_true', bne_eq_false_iff_eq] at hg1; omega)))).mono ?_; rintro v u' ⟨b, of, cs, hv, hc, hR, hu'⟩; subst hu'
    exact ⟨fun _ => ⟨b, of, cs, hv, hc, hR⟩, Ext.refl _⟩
  refine RW_d _ rfl (fun v => by dsimp only [List.set]; try rfl) (fun u hu hF => ?_) (fun v30 => ?_)
  · have h19_ : β2 = false → PtrR RI u v29 el2 := hF.1
    have h17_ : v27 = (Bo β2) := hF.2.1
    clear hF
    obtain rfl := h17_
    refine doesG_g (b := β2) rfl (yld rfl rfl) (fun hg1 => ?_) (fun hc => ⟨fun hg1 => absurd hg1 hc, Ext.refl _⟩)
    obtain ⟨b19_, o19_, _, rfl, hc19_, rfl⟩ := h19_ hg1
    refine (does_load (u := (Iv el2)) (ev rfl) Try.isAgg2 (Cells.at hc19_ 0 rfl)).mono ?_; rintro _ _ ⟨rfl, rfl⟩
    exact ⟨fun _ => rfl, Ext.refl _⟩
  refine RW_d _ rfl (fun v => by dsimp only [List.set]; try rfl) (fun u hu hF => ?_) (fun v31 => ?_)
  · have h17_ : v27 = (Bo β2) := hF.1
    clear hF
    obtain rfl := h17_
    refine doesG_g (b := β2) rfl (yld rfl rfl) (fun hg1 => ?_) (fun hc => ⟨fun hg1 => absurd hg1 hc, Ext.refl _⟩)
    refine (does_move (u := (.slice p_t_ L_t_.length q_t_)) (ev rfl)).mono ?_; rintro _ _ ⟨rfl, rfl⟩
    exact ⟨fun _ => rfl, Ext.refl _⟩
  refine RW_d _ rfl (fun v => by dsimp only [List.set]; try rfl) (fun u hu hF => ?_) (fun v32 => ?_)
  · have h21_ : β2 = false → v31 = (.slice p_t_ L_t_.length q_t_) := hF.1
    have h17_ : v27 = (Bo β2) := hF.2.1
    clear hF
    obtain rfl := h17_
    refine doesG_g (b := β2) rfl (yld rfl rfl) (fun hg1 => ?_) (fun hc => ⟨fun hg1 => absurd hg1 hc, Ext.refl _⟩)
    obtain rfl := h21_ hg1
    refine (does_indexSl (R := RI) (i := 2) (xs := L_t_) (e := el3) Try.underlying40 Try.sizeOf2 (ev rfl) (ev rfl) (Sl.ext (Sl.ext hv_t_ RI.mono (Ext.gr X8 E12)) RI.mono hu) (by first | omega | (simp only [hβ1, hβ2, icmp, Bool.or_eq_false_iff, Bool.not_eq_false', Bool.not_eq_true', decide_eq_true_eq, decide_eq_false_iff_not, bne_eq_false_iff_eq] at hg1; omega) | (simp only [hβ1, hβ2, icmp, Bool.or_eq_false_iff, Bool.not_eq_false', Bool.not_eq_true', decide_eq_true_eq, decide_eq_false_iff_not, bne_eq_false_iff_eq] at hg1 hg2; omega)) (hel3 (by first | omega | (simp only [hβ1, hβ2, icmp, Bool.or_eq_false_iff, Bool.not_eq_false', Bool.not_eq_true', bne_eq_false_iff_eq] at hg1; omega)))).mono ?_; rintro v u' ⟨b, of, cs, hv, hc, hR, hu'⟩; subst hu'
    exact ⟨fun _ => ⟨b, of, cs, hv, hc, hR⟩, Ext.refl _⟩
  refine RW_d _ rfl (fun v => by dsimp only [List.set]; try rfl) (fun u hu hF => ?_) (fun v33 => ?_)
  · have h22_ : β2 = false → PtrR RI u v32 el3 := hF.1
    have h17_ : v27 = (Bo β2) := hF.2.1
    clear hF
    obtain rfl := h17_
    refine doesG_g (b := β2) rfl (yld rfl rfl) (fun hg1 => ?_) (fun hc => ⟨fun hg1 => absurd hg1 hc, Ext.refl _⟩)
    obtain ⟨b22_, o22_, _, rfl, hc22_, rfl⟩ := h22_ hg1
    refine (does_load (u := (Iv el3)) (ev rfl) Try.isAgg2 (Cells.at hc22_ 0 rfl)).mono ?_; rintro _ _ ⟨rfl, rfl⟩
    exact ⟨fun _ => rfl, Ext.refl _⟩
  refine RW_d _ rfl (fun v => by dsimp only [List.set]; try rfl) (fun u hu hF => ?_) (fun v34 => ?_)
  · have h20_ : β2 = false → v30 = (Iv el2) := hF.1
    have h23_ : β2 = false → v33 = (Iv el3) := hF.2.1
    have h17_ : v27 = (Bo β2) := hF.2.2.1
    clear hF
    obtain rfl := h17_
    refine doesG_g (b := β2) rfl (yld rfl rfl) (fun hg1 => ?_) (fun hc => ⟨fun hg1 => absurd hg1 hc, Ext.refl _⟩)
    obtain rfl := h20_ hg1
    obtain rfl := h23_ hg1
    refine (does_icmp (p := el2) (q := el3) (.inl rfl) (ev rfl) (ev rfl)).mono ?_; rintro _ _ ⟨rfl, rfl⟩
    exact ⟨fun _ => rfl, Ext.refl _⟩
  refine RW_d _ rfl (fun v => by dsimp only [List.set]; try rfl) (fun u hu hF => ?_) (fun v35 => ?_)
  · have h17_ : v27 = (Bo β2) := hF.1
    have h24_ : β2 = false → v34 = (Bo (icmp .eql el2 el3)) := hF.2.1
    clear hF
    refine doesG_un rfl ?_
    skip
    obtain rfl := h17_
    refine (does_pick (b := β2) (u := (Bo true)) (v := v34) (ev rfl) (ev rfl) (ev rfl)).mono ?_; rintro _ _ ⟨rfl, rfl⟩; refine ⟨?_, Ext.refl _⟩; rw [hβ3]; skip
    cases hbb : β2
    all_goals first | (show _ = _; simp only [↓reduceIte, Bool.true_and, Bool.false_and, Bool.true_or, Bool.false_or, Bool.false_eq_true]; done) | (have e_ := h24_ hbb; subst e_; show _ = _; simp only [↓reduceIte, Bool.true_and, Bool.false_and, Bool.true_or, Bool.false_or, Bool.false_eq_true]; done) | rfl | (have e_ := h24_ hbb; subst e_; rfl) | (simp [hbb] at h24_ ⊢; first | done | rfl | (subst h24_; rfl) | simp_all) | (simp [hbb] at h24_ ⊢; done)
  refine RW_d _ rfl (fun v => by dsimp only [List.set]; try rfl) (fun u hu hF => ?_) (fun v36 => ?_)
  · have h25_ : v35 = (Bo β3) := hF.1
    clear hF
    refine doesG_un rfl ?_
    obtain rfl := h25_
    refine (does_move (u := (Bo β3)) (ev rfl)).mono ?_; rintro _ _ ⟨rfl, rfl⟩
    exact ⟨rfl, Ext.refl _⟩
  refine RW_d _ rfl (fun v => by dsimp only [List.set]; try rfl) (fun u hu hF => ?_) (fun v37 => ?_)
  · have h26_ : v36 = (Bo β3) := hF.1
    clear hF
    obtain rfl := h26_
    refine doesG_g (b := β3) rfl (yld rfl rfl) (fun hg1 => ?_) (fun hc => ⟨fun hg1 => absurd hg1 hc, Ext.refl _⟩)
    refine (does_move (u := (.slice p_t_ L_t_.length q_t_)) (ev rfl)).mono ?_; rintro _ _ ⟨rfl, rfl⟩
    exact ⟨fun _ => rfl, Ext.refl _⟩
  refine RW_d _ rfl (fun v => by dsimp only [List.set]; try rfl) (fun u hu hF => ?_) (fun v38 => ?_)
  · have h27_ : β3 = false → v37 = (.slice p_t_ L_t_.length q_t_) := hF.1
    have h26_ : v36 = (Bo β3) := hF.2.1
    clear hF
    obtain rfl := h26_
    refine doesG_g (b := β3) rfl (yld rfl rfl) (fun hg1 => ?_) (fun hc => ⟨fun hg1 => absurd hg1 hc, Ext.refl _⟩)
    obtain rfl := h27_ hg1
    refine (does_indexSl (R := RI) (i := 2) (xs := L_t_) (e := el3) Try.underlying40 Try.sizeOf2 (ev rfl) (ev rfl) (Sl.ext (Sl.ext hv_t_ RI.mono (Ext.gr X8 E12)) RI.mono hu) (by first | omega | (simp only [hβ1, hβ2, hβ3, icmp, Bool.or_eq_false_iff, Bool.not_eq_false', Bool.not_eq_true', decide_eq_true_eq, decide_eq_false_iff_not, bne_eq_false_iff_eq] at hg1; omega) | (simp only [hβ1, hβ2, hβ3, icmp, Bool.or_eq_false_iff, Bool.not_eq_false', Bool.not_eq_true', decide_eq_true_eq, decide_eq_false_iff_not, bne_eq_false_iff_eq] at hg1 hg2; omega)) (hel3 (by first | omega | (simp only [hβ1, hβ2, hβ3, icmp, Bool.or_eq_false_iff, Bool.not_eq_false', Bool.not_eq_true', bne_eq_false_iff_eq] at hg1; omega)))).mono ?_; rintro v u' ⟨b, of, cs, hv, hc, hR, hu'⟩; subst hu'
    exact ⟨fun _ => ⟨b, of, cs, hv, hc, hR⟩, Ext.refl _⟩
  refine RW_d _ rfl (fun v => by dsimp only [List.set]; try rfl) (fun u hu hF => ?_) (fun v39 => ?_)
  · have h28_ : β3 = false → PtrR RI u v38 el3 := hF.1
    have h26_ : v36 = (Bo β3) := hF.2.1
    clear hF
    obtain rfl := h26_
    refine doesG_g (b := β3) rfl (yld rfl rfl) (fun hg1 => ?_) (fun hc => ⟨fun hg1 => absurd hg1 hc, Ext.refl _⟩)
    obtain ⟨b28_, o28_, _, rfl, hc28_, rfl⟩ := h28_ hg1
    refine (does_load (u := (Iv el3)) (ev rfl) Try.isAgg2 (Cells.at hc28_ 0 rfl)).mono ?_; rintro _ _ ⟨rfl, rfl⟩
    exact ⟨fun _ => rfl, Ext.refl _⟩
  refine RW_d _ rfl (fun v => by dsimp only [List.set]; try rfl) (fun u hu hF => ?_) (fun v40 => ?_)
  · have h26_ : v36 = (Bo β3) := hF.1
    clear hF
    obtain rfl := h26_
    refine doesG_g (b := β3) rfl (yld rfl rfl) (fun hg1 => ?_) (fun hc => ⟨fun hg1 => absurd hg1 hc, Ext.refl _⟩)
    refine (does_move (u := (.slice p_t_ L_t_.length q_t_)) (ev rfl)).mono ?_; rintro _ _ ⟨rfl, rfl⟩
    exact ⟨fun _ => rfl, Ext.refl _⟩
  refine RW_d _ rfl (fun v => by dsimp only [List.set]; try rfl) (fun u hu hF => ?_) (fun v41 => ?_)
  · have h30_ : β3 = false → v40 = (.slice p_t_ L_t_.length q_t_) := hF.1
    have h26_ : v36 = (Bo β3) := hF.2.1
    clear hF
    obtain rfl := h26_
    refine doesG_g (b := β3) rfl (yld rfl rfl) (fun hg1 => ?_) (fun hc => ⟨fun hg1 => absurd hg1 hc, Ext.refl _⟩)
    obtain rfl := h30_ hg1
    refine (does_indexSl (R := RI) (i := 0) (xs := L_t_) (e := el1) Try.underlying40 Try.sizeOf2 (ev rfl) (ev rfl) (Sl.ext (Sl.ext hv_t_ RI.mono (Ext.gr X8 E12)) RI.mono hu) (by first | omega | (simp only [hβ1, hβ2, hβ3, icmp, Bool.or_eq_false_iff, Bool.not_eq_false', Bool.not_eq_true', decide_eq_true_eq, decide_eq_false_iff_not, bne_eq_false_iff_eq] at hg1; omega) | (simp only [hβ1, hβ2, hβ3, icmp, Bool.or_eq_false_iff, Bool.not_eq_false', Bool.not_eq_true', decide_eq_true_eq, decide_eq_false_iff_not, bne_eq_false_iff_eq] at hg1 hg2; omega)) (hel1 (by first | omega | (simp only [hβ1, hβ2, hβ3, icmp, Bool.or_eq_false_iff, Bool.not_eq_false', Bool.not_eq_true', bne_eq_false_iff_eq] at hg1; omega)))).mono ?_; rintro v u' ⟨b, of, cs, hv, hc, hR, hu'⟩; subst hu'
    exact ⟨fun _ => ⟨b, of, cs, hv, hc, hR⟩, Ext.refl _⟩
  refine RW_d _ rfl (fun v => by dsimp only [List.set]; try rfl) (fun u hu hF => ?_) (fun v42 => ?_)
  · have h31_ : β3 = false → PtrR RI u v41 el1 := hF.1
    have h26_ : v36 = (Bo β3) := hF.2.1
    clear hF
    obtain rfl := h26_
    refine doesG_g (b := β3) rfl (yld rfl rfl) (fun hg1 => ?_) (fun hc => ⟨fun hg1 => absurd hg1 hc, Ext.refl _⟩)
    obtain ⟨b31_, o31_, _, rfl, hc31_, rfl⟩ := h31_ hg1
    refine (does_load (u := (Iv el1)) (ev rfl) Try.isAgg2 (Cells.at hc31_ 0 rfl)).mono ?_; rintro _ _ ⟨rfl, rfl⟩
    exact ⟨fun _ => rfl, Ext.refl _⟩
  refine RW_d _ rfl (fun v => by dsimp only [List.set]; try rfl) (fun u hu hF => ?_) (fun v43 => ?_)
  · have h29_ : β3 = false → v39 = (Iv el3) := hF.1
    have h32_ : β3 = false → v42 = (Iv el1) := hF.2.1
    have h26_ : v36 = (Bo β3) := hF.2.2.1
    clear hF
    obtain rfl := h26_
    refine doesG_g (b := β3) rfl (yld rfl rfl) (fun hg1 => ?_) (fun hc => ⟨fun hg1 => absurd hg1 hc, Ext.refl _⟩)
    obtain rfl := h29_ hg1
    obtain rfl := h32_ hg1
    refine (does_icmp (p := el3) (q := el1) (.inl rfl) (ev rfl) (ev rfl)).mono ?_; rintro _ _ ⟨rfl, rfl⟩
    exact ⟨fun _ => rfl, Ext.refl _⟩
  refine RW_d _ rfl (fun v => by dsimp only [List.set]; try rfl) (fun u hu hF => ?_) (fun v44 => ?_)
  · have h26_ : v36 = (Bo β3) := hF.1
    have h33_ : β3 = false → v43 = (Bo (icmp .eql el3 el1)) := hF.2.1
    clear hF
    refine doesG_un rfl ?_
    skip
    obtain rfl := h26_
    refine (does_pick (b := β3) (u := (Bo true)) (v := v43) (ev rfl) (ev rfl) (ev rfl)).mono ?_; rintro _ _ ⟨rfl, rfl⟩; refine ⟨?_, Ext.refl _⟩; rw [hβ4]; skip
    cases hbb : β3
    all_goals first | (show _ = _; simp only [↓reduceIte, Bool.true_and, Bool.false_and, Bool.true_or, Bool.false_or, Bool.false_eq_true]; done) | (have e_ := h33_ hbb; subst e_; show _ = _; simp only [↓reduceIte, Bool.true_and, Bool.false_and, Bool.true_or, Bool.false_or, Bool.false_eq_true]; done) | rfl | (have e_ := h33_ hbb; subst e_; rfl) | (simp [hbb] at h33_ ⊢; first | done | rfl | (subst h33_; rfl) | simp_all) | (simp [hbb] at h33_ ⊢; done)
  refine RW_fin ?_; intro w45 E46 hP47
  obtain ⟨⟨⟨⟨⟨⟨⟨⟨⟨⟨⟨⟨⟨⟨⟨⟨⟨⟨⟨⟨⟨⟨⟨⟨⟨⟨⟨⟨⟨⟨-, -⟩, -⟩, -⟩, -⟩, -⟩, -⟩, -⟩, -⟩, -⟩, -⟩, -⟩, -⟩, -⟩, -⟩, -⟩, -⟩, -⟩, -⟩, -⟩, -⟩, -⟩, -⟩, -⟩, -⟩, -⟩, -⟩, -⟩, -⟩, -⟩, q48⟩ := hP47
  have X49 := Ext.gr X14 E46
  have q48 : v44 = (Bo β4) := q48
  obtain rfl := q48
  show wpList _ _ _ _ (fr [_, _, _, _, _, _, _, _, _, _, _, _, _, _, _, _, _, _, _, _, _, _, _, _, _, _, _, _, _, _, _, _, _, _, _, _, _, _, _]) _
  refine wpList_nil (hK10 _ _ ?_)
  refine wp_cond_split (t := β4) (ev rfl) (fun c50 => ?_) (fun c50 => ?_)
  · have c50' := c50
    (try simp only [hβ1, hβ2, hβ3, hβ4] at c50')
    (try simp only [icmp, Bool.and_eq_true, Bool.or_eq_true, Bool.and_eq_false_iff, Bool.or_eq_false_iff, Bool.not_eq_true', Bool.not_eq_false', decide_eq_true_eq, decide_eq_false_iff_not, beq_iff_eq, bne_iff_ne, beq_eq_false_iff_ne, bne_eq_false_iff_eq] at c50')
    refine wp_seq_k fun K51 hK51 => ?_
    refine wp_region_lit ?_
    refine q_is rfl rfl (does_assign (u := (Bo false)) (ev rfl)) (by dsimp only [List.set]; try rfl) ?_
    refine wpList_nil (hK51 _ _ ?_)
    refine wp_ret ?_
    dsimp only [Exit.then, Exit.inBlock]
    refine ret_val (v := (Bo false)) (res_T rfl (slot rfl)) X49 ?_
    try simp only [hβ1, hβ2, hβ3, hβ4] at c50
    have x52 : (triOk n_ L_t_) = false := by first | exact triOk_bad (by assumption) (by assumption) (by assumption) (by assumption) | exact triOk_any (by assumption) (by assumption) (by assumption) (by assumption)
    exact (by first | with_reducible rfl | rw [x52] | rfl)
  have c50' := c50
  (try simp only [hβ1, hβ2, hβ3, hβ4] at c50')
  (try simp only [icmp, Bool.and_eq_true, Bool.or_eq_true, Bool.and_eq_false_iff, Bool.or_eq_false_iff, Bool.not_eq_true', Bool.not_eq_false', decide_eq_true_eq, decide_eq_false_iff_not, beq_iff_eq, bne_iff_ne, beq_eq_false_iff_ne, bne_eq_false_iff_eq] at c50')
  refine wp_skip (hK9 _ _ ?_)
  refine wp_seq_k fun K53 hK53 => ?_
  refine wp_region_lit ?_
  refine q_is rfl rfl (does_move (u := (.slice p_t_ L_t_.length q_t_)) (ev rfl)) (by dsimp only [List.set]; try rfl) ?_
  refine q_is rfl rfl (does_makeFunc (u := (.func (.func 39) #[] #[(Pt b2 0)])) (evs rfl) (evs rfl) rfl) (by dsimp only [List.set]; try rfl) ?_
  refine seqd rfl rfl (does_call (args := #[(.slice p_t_ L_t_.length q_t_), (.func (.func 39) #[] #[(Pt b2 0)])]) cal38 (evs rfl) (c_slices_ContainsFunc_int64_int64 (.slice p_t_ L_t_.length q_t_) L_t_ (.func (.func 39) #[] #[(Pt b2 0)]) (fun x => !inI x 0 (IntKind.i64.wrap (n_ - 1))) _ (Sl.ext hv_t_ RI.mono X49) ⟨39, #[], #[(Pt b2 0)], rfl, cal39, fun n0 u hu'  => by simpa using (c_impl_isTriangle_1 n0 b2 0 n_ u (Blk.cells (((hB4.ext E12).ext E46).ext hu')))⟩)) ?_; rintro _ w55 ⟨E54, rfl⟩
  have X56 := Ext.gr X49 E54
  show wpList _ _ _ _ (fr [_, _, _, _, _, _, _, _, _, _, _, _, _, _, _, _, _, _, _, _, _, _, _, _, _, _, _, _, _, _, _, _, _, _, _, _, _, _, _]) _
  refine q_is rfl rfl (does_not (ev rfl)) (by dsimp only [List.set]; try rfl) ?_
  refine q_is rfl rfl (does_assign (u := (Bo (!(L_t_.any (fun x => !inI x 0 (IntKind.i64.wrap (n_ - 1))))))) (ev rfl)) (by dsimp only [List.set]; try rfl) ?_
  refine wpList_nil (hK53 _ _ ?_)
  refine wp_ret ?_
  refine ret_val (v := (Bo (!(L_t_.any (fun x => !inI x 0 (IntKind.i64.wrap (n_ - 1))))))) (res_T rfl (slot rfl)) X56 ?_
  try simp only [hβ1, hβ2, hβ3, hβ4] at c50
  have x57 : (triOk n_ L_t_) = (!(L_t_.any (fun x => !inI x 0 (IntKind.i64.wrap (n_ - 1))))) := by first | exact triOk_bad (by assumption) (by assumption) (by assumption) (by assumption) | exact triOk_any (by assumption) (by assumption) (by assumption) (by assumption)
  exact (by first | with_reducible rfl | rw [x57] | rfl)

/- impl.ValidMesh$1 -/
theorem c_impl_ValidMesh_1 (t_ : Value) (L_t_ : List Int) (m_b : Nat) (m_o : Nat) (m : List Value) (A_m : MeshT) (w : World) (hv_t_ : Sl RI 1 w t_ L_t_) (hc_m : Cells w m_b m_o m) (hv_m : RMeshT w A_m m) : Gives Try.prog 30 #[t_, (Pt m_b m_o)] w (fun v w' => v = (Bo (!triOk (A_m.places.length : Int) L_t_))) := by
  have hlen_t_ := Sl.len hv_t_; obtain ⟨p_t_, q_t_, rfl⟩ := Sl.shape hv_t_
  obtain ⟨y1, y3, rfl, h2, h4⟩ := hv_m
  have hs7 := h2; have hs7l := Sl.len h2; obtain ⟨p5, q6, rfl⟩ := Sl.shape h2
  have hs10 := h4; have hs10l := Sl.len h4; obtain ⟨p8, q9, rfl⟩ := Sl.shape h4
  refine enter [(.slice p_t_ L_t_.length q_t_), (Pt m_b m_o), Ud, Ud, Ud, Ud, Ud, Ud, Ud, Ud] Try.func30 rfl Try.ntmps30 rfl ?_
  refine wp_seq_k fun K11 hK11 => ?_
  refine wp_region_lit ?_
  refine q_is (l' := [(.slice p_t_ L_t_.length q_t_), (Pt m_b m_o), Ud, (Bo false), Ud, Ud, Ud, Ud, Ud, Ud]) rfl rfl (does_assign (u := (Bo false)) (ev rfl)) rfl ?_
  refine wpList_nil (hK11 _ _ ?_)
  refine wp_seq_k fun K12 hK12 => ?_
  refine wp_region_lit ?_
  refine q_is (l' := [(.slice p_t_ L_t_.length q_t_), (Pt m_b m_o), Ud, (Bo false), (.slice p_t_ L_t_.length q_t_), Ud, Ud, Ud, Ud, Ud]) rfl rfl (does_move (u := (.slice p_t_ L_t_.length q_t_)) (ev rfl)) rfl ?_
  refine q_is (l' := [(.slice p_t_ L_t_.length q_t_), (Pt m_b m_o), Ud, (Bo false), (.slice p_t_ L_t_.length q_t_), (Pt m_b m_o), Ud, Ud, Ud, Ud]) rfl rfl (does_fieldAddr (ev rfl) fa29_0) rfl ?_
  refine q_is (l' := [(.slice p_t_ L_t_.length q_t_), (Pt m_b m_o), Ud, (Bo false), (.slice p_t_ L_t_.length q_t_), (Pt m_b m_o), (.slice p5 A_m.places.length q6), Ud, Ud, Ud]) rfl rfl (does_load (u := (.slice p5 A_m.places.length q6)) (ev rfl) Try.isAgg27 (Cells.at hc_m 0 rfl)) rfl ?_
  refine q_is (l' := [(.slice p_t_ L_t_.length q_t_), (Pt m_b m_o), Ud, (Bo false), (.slice p_t_ L_t_.length q_t_), (Pt m_b m_o), (.slice p5 A_m.places.length q6), (Iv (A_m.places.length : Int)), Ud, Ud]) rfl rfl (does_len_slice Try.underlying27 (ev rfl)) rfl ?_
  refine seqd rfl rfl (does_call (args := #[(.slice p_t_ L_t_.length q_t_), (Iv (A_m.places.length : Int))]) cal31 (evs rfl) (c_impl_isTriangle (.slice p_t_ L_t_.length q_t_) L_t_ (A_m.places.length : Int) _ hv_t_)) ?_; rintro _ w14 ⟨E13, rfl⟩
  have X15 := Ext.gr (Ext.refl w) E13
  show wpList _ _ _ _ (fr [(.slice p_t_ L_t_.length q_t_), (Pt m_b m_o), Ud, (Bo false), (.slice p_t_ L_t_.length q_t_), (Pt m_b m_o), (.slice p5 A_m.places.length q6), (Iv (A_m.places.length : Int)), (Bo (triOk (A_m.places.length : Int) L_t_)), Ud]) _
  refine q_is (l' := [(.slice p_t_ L_t_.length q_t_), (Pt m_b m_o), Ud, (Bo false), (.slice p_t_ L_t_.length q_t_), (Pt m_b m_o), (.slice p5 A_m.places.length q6), (Iv (A_m.places.length : Int)), (Bo (triOk (A_m.places.length : Int) L_t_)), (Bo (!(triOk (A_m.places.length : Int) L_t_)))]) rfl rfl (does_not (ev rfl)) rfl ?_
  refine q_is (l' := [(.slice p_t_ L_t_.length q_t_), (Pt m_b m_o), Ud, (Bo (!(triOk (A_m.places.length : Int) L_t_))), (.slice p_t_ L_t_.length q_t_), (Pt m_b m_o), (.slice p5 A_m.places.length q6), (Iv (A_m.places.length : Int)), (Bo (triOk (A_m.places.length : Int) L_t_)), (Bo (!(triOk (A_m.places.length : Int) L_t_)))]) rfl rfl (does_assign (u := (Bo (!(triOk (A_m.places.length : Int) L_t_)))) (ev rfl)) rfl ?_
  refine wpList_nil (hK12 _ _ ?_)
  refine wp_ret ?_
  refine ret_val (v := (Bo (!(triOk (A_m.places.length : Int) L_t_)))) (res_T rfl (slot rfl)) X15 ?_
  have x16 : (!triOk (A_m.places.length : Int) L_t_) = (!(triOk (A_m.places.length : Int) L_t_)) := by first | with_reducible rfl | (simp only []; done) | (simp []; done) | rfl
  exact (by first | with_reducible rfl | rw [x16] | rfl)

/- impl.ValidMesh -/
theorem c_impl_ValidMesh (m : List Value) (A_m : MeshT) (w : World) (hv_m : RMeshT w A_m m) : Gives Try.prog 16 #[(.agg m.toArray)] w (fun v w' => v = (Bo (meshOk A_m))) := by
  obtain ⟨y1, y3, rfl, h2, h4⟩ := hv_m
  have hs7 := h2; have hs7l := Sl.len h2; obtain ⟨p5, q6, rfl⟩ := Sl.shape h2
  have hs10 := h4; have hs10l := Sl.len h4; obtain ⟨p8, q9, rfl⟩ := Sl.shape h4
  refine enter [(.agg #[(.slice p5 A_m.places.length q6), (.slice p8 A_m.tris.length q9)]), Ud, Ud, Ud, Ud, Ud, Ud, Ud, Ud, Ud, Ud, Ud, Ud, Ud, Ud, Ud, Ud, Ud, Ud, Ud, Ud, Ud] Try.func16 rfl Try.ntmps16 rfl ?_
  refine wp_seq_k fun K11 hK11 => ?_
  refine wp_region_lit ?_
  refine seqd rfl rfl (does_box (u := (.agg #[(.slice p5 A_m.places.length q6), (.slice p8 A_m.tris.length q9)])) (ev rfl)) ?_; rintro _ w16 ⟨b12, rfl, hb13, hB14, E15⟩
  have g17 : w.heap.size ≤ b12 := Nat.le_trans (Below.size (Ext.refl w)) hb13
  change Blk _ _ [(.slice p5 A_m.places.length q6), (.slice p8 A_m.tris.length q9)] at hB14
  have X18 := Ext.gr (Ext.refl w) E15
  show wpList _ _ _ _ (fr [(.agg #[(.slice p5 A_m.places.length q6), (.slice p8 A_m.tris.length q9)]), (Pt b12 0), Ud, Ud, Ud, Ud, Ud, Ud, Ud, Ud, Ud, Ud, Ud, Ud, Ud, Ud, Ud, Ud, Ud, Ud, Ud, Ud]) _
  refine q_is (l' := [(.agg #[(.slice p5 A_m.places.length q6), (.slice p8 A_m.tris.length q9)]), (Pt b12 0), (Bo false), Ud, Ud, Ud, Ud, Ud, Ud, Ud, Ud, Ud, Ud, Ud, Ud, Ud, Ud, Ud, Ud, Ud, Ud, Ud]) rfl rfl (does_assign (u := (Bo false)) (ev rfl)) rfl ?_
  refine wpList_nil (hK11 _ _ ?_)
  refine wp_seq_k fun K19 hK19 => ?_
  refine wp_region_lit ?_
  refine q_is (l' := [(.agg #[(.slice p5 A_m.places.length q6), (.slice p8 A_m.tris.length q9)]), (Pt b12 0), (Bo false), Ud, (Pt b12 1), Ud, Ud, Ud, Ud, Ud, Ud, Ud, Ud, Ud, Ud, Ud, Ud, Ud, Ud, Ud, Ud, Ud]) rfl rfl (does_fieldAddr (ev rfl) fa29_1) rfl ?_
  refine q_is (l' := [(.agg #[(.slice p5 A_m.places.length q6), (.slice p8 A_m.tris.length q9)]), (Pt b12 0), (Bo false), Ud, (Pt b12 1), (.slice p8 A_m.tris.length q9), Ud, Ud, Ud, Ud, Ud, Ud, Ud, Ud, Ud, Ud, Ud, Ud, Ud, Ud, Ud, Ud]) rfl rfl (does_load (u := (.slice p8 A_m.tris.length q9)) (ev rfl) Try.isAgg23 (Cells.at (Blk.cells hB14) 1 rfl)) rfl ?_
  refine q_is (l' := [(.agg #[(.slice p5 A_m.places.length q6), (.slice p8 A_m.tris.length q9)]), (Pt b12 0), (Bo false), Ud, (Pt b12 1), (.slice p8 A_m.tris.length q9), (.func (.func 30) #[] #[(Pt b12 0)]), Ud, Ud, Ud, Ud, Ud, Ud, Ud, Ud, Ud, Ud, Ud, Ud, Ud, Ud, Ud]) rfl rfl (does_makeFunc (u := (.func (.func 30) #[] #[(Pt b12 0)])) (evs rfl) (evs rfl) rfl) rfl ?_
  refine seqd rfl rfl (does_call (args := #[(.slice p8 A_m.tris.length q9), (.func (.func 30) #[] #[(Pt b12 0)])]) cal29 (evs rfl) (c_slices_ContainsFunc_SS_int64_int64 (.slice p8 A_m.tris.length q9) A_m.tris (.func (.func 30) #[] #[(Pt b12 0)]) (fun x => !triOk (A_m.places.length : Int) x) _ (Sl.ext hs10 (RS.mono RI.mono) X18) ⟨30, #[], #[(Pt b12 0)], rfl, cal30, fun y0 X0 u hu' ha0 => by simpa using (c_impl_ValidMesh_1 y0 X0 b12 0 [(.slice p5 A_m.places.length q6), (.slice p8 A_m.tris.length q9)] A_m u ha0 (Blk.cells (hB14.ext hu')) ⟨(.slice p5 A_m.places.length q6), (.slice p8 A_m.tris.length q9), rfl, (Sl.ext (Sl.ext hs7 RV3.mono X18) RV3.mono hu'), (Sl.ext (Sl.ext hs10 (RS.mono RI.mono) X18) (RS.mono RI.mono) hu')⟩)⟩)) ?_; rintro _ w21 ⟨E20, rfl⟩
  have X22 := Ext.gr X18 E20
  show wpList _ _ _ _ (fr [(.agg #[(.slice p5 A_m.places.length q6), (.slice p8 A_m.tris.length q9)]), (Pt b12 0), (Bo false), Ud, (Pt b12 1), (.slice p8 A_m.tris.length q9), (.func (.func 30) #[] #[(Pt b12 0)]), (Bo (A_m.tris.any (fun x => !triOk (A_m.places.length : Int) x))), Ud, Ud, Ud, Ud, Ud, Ud, Ud, Ud, Ud, Ud, Ud, Ud, Ud, Ud]) _
  refine q_is (l' := [(.agg #[(.slice p5 A_m.places.length q6), (.slice p8 A_m.tris.length q9)]), (Pt b12 0), (Bo false), (Bo (A_m.tris.any (fun x => !triOk (A_m.places.length : Int) x))), (Pt b12 1), (.slice p8 A_m.tris.length q9), (.func (.func 30) #[] #[(Pt b12 0)]), (Bo (A_m.tris.any (fun x => !triOk (A_m.places.length : Int) x))), Ud, Ud, Ud, Ud, Ud, Ud, Ud, Ud, Ud, Ud, Ud, Ud, Ud, Ud]) rfl rfl (does_assign (u := (Bo (A_m.tris.any (fun x => !triOk (A_m.places.length : Int) x)))) (ev rfl)) rfl ?_
  refine wpList_nil (hK19 _ _ ?_)
  refine wp_seq_k fun K23 hK23 => ?_
  obtain ⟨β1, hβ1⟩ : ∃ b : Bool, b = (A_m.tris.any (fun x => !triOk (A_m.places.length : Int) x)) := ⟨_, rfl⟩
  obtain ⟨β2, hβ2⟩ : ∃ b : Bool, b = (icmp .leq (A_m.places.length : Int) 8192) := ⟨_, rfl⟩
  obtain ⟨β3, hβ3⟩ : ∃ b : Bool, b = (icmp .leq (A_m.tris.length : Int) 9000) := ⟨_, rfl⟩
  refine region_text (
    [Fact.pure [] (fun v => v = (Bo β1)),
    Fact.pure [8] (fun v => v = (Bo (!β1))),
    Fact.pure [9] (fun v => v = (Bo (!β1))),
    Fact.pure [10] (fun v => (!β1) = true → v = (Pt b12 0)),
    Fact.pure [11, 10] (fun v => (!β1) = true → v = (.slice p5 A_m.places.length q6)),
    Fact.pure [12, 10] (fun v => (!β1) = true → v = (Iv (A_m.places.length : Int))),
    Fact.pure [13, 10] (fun v => (!β1) = true → v = (Bo β2)),
    Fact.pure [10, 14] (fun v => v = (Bo ((!β1) && β2))),
    Fact.pure [15] (fun v => v = (Bo ((!β1) && β2))),
    Fact.pure [16] (fun v => ((!β1) && β2) = true → v = (Pt b12 1)),
    Fact.pure [17, 16] (fun v => ((!β1) && β2) = true → v = (.slice p8 A_m.tris.length q9)),
    Fact.pure [18, 16] (fun v => ((!β1) && β2) = true → v = (Iv (A_m.tris.length : Int))),
    Fact.pure [19, 16] (fun v => ((!β1) && β2) = true → v = (Bo β3)),
    Fact.pure [16, 20] (fun v => v = (Bo (((!β1) && β2) && β3)))]) (by simp [Fact.pure, Fact.mem]) ?_
  refine RW_d (fun v24 => [(.agg #[(.slice p5 A_m.places.length q6), (.slice p8 A_m.tris.length q9)]), (Pt b12 0), (Bo false), (Bo (A_m.tris.any (fun x => !triOk (A_m.places.length : Int) x))), (Pt b12 1), (.slice p8 A_m.tris.length q9), (.func (.func 30) #[] #[(Pt b12 0)]), (Bo (A_m.tris.any (fun x => !triOk (A_m.places.length : Int) x))), v24, Ud, Ud, Ud, Ud, Ud, Ud, Ud, Ud, Ud, Ud, Ud, Ud, Ud]) rfl (fun _ => rfl) (fun u hu hF => ?_) (fun v24 => ?_)
  · clear hF
    refine doesG_un rfl ?_
    refine (does_move (u := (Bo (A_m.tris.any (fun x => !triOk (A_m.places.length : Int) x)))) (ev rfl)).mono ?_; rintro _ _ ⟨rfl, rfl⟩
    exact ⟨(by first | rfl | (show _ = _; simp only [hβ1]; done) | (show _ = _; simp only [hβ1]; rfl)), Ext.refl _⟩
  refine RW_d (fun v25 => [(.agg #[(.slice p5 A_m.places.length q6), (.slice p8 A_m.tris.length q9)]), (Pt b12 0), (Bo false), (Bo (A_m.tris.any (fun x => !triOk (A_m.places.length : Int) x))), (Pt b12 1), (.slice p8 A_m.tris.length q9), (.func (.func 30) #[] #[(Pt b12 0)]), (Bo (A_m.tris.any (fun x => !triOk (A_m.places.length : Int) x))), v24, v25, Ud, Ud, Ud, Ud, Ud, Ud, Ud, Ud, Ud, Ud, Ud, Ud]) rfl (fun _ => rfl) (fun u hu hF => ?_) (fun v25 => ?_)
  · have h8_ : v24 = (Bo β1) := hF.1
    clear hF
    refine doesG_un rfl ?_
    obtain rfl := h8_
    refine (does_not (ev rfl)).mono ?_; rintro _ _ ⟨rfl, rfl⟩
    exact ⟨rfl, Ext.refl _⟩
  refine RW_d (fun v26 => [(.agg #[(.slice p5 A_m.places.length q6), (.slice p8 A_m.tris.length q9)]), (Pt b12 0), (Bo false), (Bo (A_m.tris.any (fun x => !triOk (A_m.places.length : Int) x))), (Pt b12 1), (.slice p8 A_m.tris.length q9), (.func (.func 30) #[] #[(Pt b12 0)]), (Bo (A_m.tris.any (fun x => !triOk (A_m.places.length : Int) x))), v24, v25, v26, Ud, Ud, Ud, Ud, Ud, Ud, Ud, Ud, Ud, Ud, Ud]) rfl (fun _ => rfl) (fun u hu hF => ?_) (fun v26 => ?_)
  · have h9_ : v25 = (Bo (!β1)) := hF.1
    clear hF
    refine doesG_un rfl ?_
    obtain rfl := h9_
    refine (does_move (u := (Bo (!β1))) (ev rfl)).mono ?_; rintro _ _ ⟨rfl, rfl⟩
    exact ⟨rfl, Ext.refl _⟩
  refine RW_d (fun v27 => [(.agg #[(.slice p5 A_m.places.length q6), (.slice p8 A_m.tris.length q9)]), (Pt b12 0), (Bo false), (Bo (A_m.tris.any (fun x => !triOk (A_m.places.length : Int) x))), (Pt b12 1), (.slice p8 A_m.tris.length q9), (.func (.func 30) #[] #[(Pt b12 0)]), (Bo (A_m.tris.any (fun x => !triOk (A_m.places.length : Int) x))), v24, v25, v26, v27, Ud, Ud, Ud, Ud, Ud, Ud, Ud, Ud, Ud, Ud]) rfl (fun _ => rfl) (fun u hu hF => ?_) (fun v27 => ?_)
  · have h10_ : v26 = (Bo (!β1)) := hF.1
    clear hF
    obtain rfl := h10_
    refine doesG_g (b := (!β1)) rfl (yld rfl rfl) (fun hg1 => ?_) (fun hc => ⟨fun hg1 => absurd hg1 hc, Ext.refl _⟩)
    refine (does_fieldAddr (ev rfl) fa29_0).mono ?_; rintro _ _ ⟨rfl, rfl⟩
    exact ⟨fun _ => rfl, Ext.refl _⟩
  refine RW_d (fun v28 => [(.agg #[(.slice p5 A_m.places.length q6), (.slice p8 A_m.tris.length q9)]), (Pt b12 0), (Bo false), (Bo (A_m.tris.any (fun x => !triOk (A_m.places.length : Int) x))), (Pt b12 1), (.slice p8 A_m.tris.length q9), (.func (.func 30) #[] #[(Pt b12 0)]), (Bo (A_m.tris.any (fun x => !triOk (A_m.places.length : Int) x))), v24, v25, v26, v27, v28, Ud, Ud, Ud, Ud, Ud, Ud, Ud, Ud, Ud]) rfl (fun _ => rfl) (fun u hu hF => ?_) (fun v28 => ?_)
  · have h11_ : (!β1) = true → v27 = (Pt b12 0) := hF.1
    have h10_ : v26 = (Bo (!β1)) := hF.2.1
    clear hF
    obtain rfl := h10_
    refine doesG_g (b := (!β1)) rfl (yld rfl rfl) (fun hg1 => ?_) (fun hc => ⟨fun hg1 => absurd hg1 hc, Ext.refl _⟩)
    obtain rfl := h11_ hg1
    refine (does_load (u := (.slice p5 A_m.places.length q6)) (ev rfl) Try.isAgg27 (Cells.at (Blk.cells ((hB14.ext E20).ext hu)) 0 rfl)).mono ?_; rintro _ _ ⟨rfl, rfl⟩
    exact ⟨fun _ => rfl, Ext.refl _⟩
  refine RW_d (fun v29 => [(.agg #[(.slice p5 A_m.places.length q6), (.slice p8 A_m.tris.length q9)]), (Pt b12 0), (Bo false), (Bo (A_m.tris.any (fun x => !triOk (A_m.places.length : Int) x))), (Pt b12 1), (.slice p8 A_m.tris.length q9), (.func (.func 30) #[] #[(Pt b12 0)]), (Bo (A_m.tris.any (fun x => !triOk (A_m.places.length : Int) x))), v24, v25, v26, v27, v28, v29, Ud, Ud, Ud, Ud, Ud, Ud, Ud, Ud]) rfl (fun _ => rfl) (fun u hu hF => ?_) (fun v29 => ?_)
  · have h12_ : (!β1) = true → v28 = (.slice p5 A_m.places.length q6) := hF.1
    have h10_ : v26 = (Bo (!β1)) := hF.2.1
    clear hF
    obtain rfl := h10_
    refine doesG_g (b := (!β1)) rfl (yld rfl rfl) (fun hg1 => ?_) (fun hc => ⟨fun hg1 => absurd hg1 hc, Ext.refl _⟩)
    obtain rfl := h12_ hg1
    refine (does_len_slice Try.underlying27 (ev rfl)).mono ?_; rintro _ _ ⟨rfl, rfl⟩
    exact ⟨fun _ => rfl, Ext.refl _⟩
  refine RW_d (fun v30 => [(.agg #[(.slice p5 A_m.places.length q6), (.slice p8 A_m.tris.length q9)]), (Pt b12 0), (Bo false), (Bo (A_m.tris.any (fun x => !triOk (A_m.places.length : Int) x))), (Pt b12 1), (.slice p8 A_m.tris.length q9), (.func (.func 30) #[] #[(Pt b12 0)]), (Bo (A_m.tris.any (fun x => !triOk (A_m.places.length : Int) x))), v24, v25, v26, v27, v28, v29, v30, Ud, Ud, Ud, Ud, Ud, Ud, Ud]) rfl (fun _ => rfl) (fun u hu hF => ?_) (fun v30 => ?_)
  · have h13_ : (!β1) = true → v29 = (Iv (A_m.places.length : Int)) := hF.1
    have h10_ : v26 = (Bo (!β1)) := hF.2.1
    clear hF
    obtain rfl := h10_
    refine doesG_g (b := (!β1)) rfl (yld rfl rfl) (fun hg1 => ?_) (fun hc => ⟨fun hg1 => absurd hg1 hc, Ext.refl _⟩)
    obtain rfl := h13_ hg1
    refine (does_icmp (p := (A_m.places.length : Int)) (q := 8192) (.inr (.inr (.inr (.inl rfl)))) (ev rfl) (ev rfl)).mono ?_; rintro _ _ ⟨rfl, rfl⟩
    exact ⟨fun _ => (by first | rfl | (show _ = _; simp only [hβ2]; done) | (show _ = _; simp only [hβ2]; rfl)), Ext.refl _⟩
  refine RW_d (fun v31 => [(.agg #[(.slice p5 A_m.places.length q6), (.slice p8 A_m.tris.length q9)]), (Pt b12 0), (Bo false), (Bo (A_m.tris.any (fun x => !triOk (A_m.places.length : Int) x))), (Pt b12 1), (.slice p8 A_m.tris.length q9), (.func (.func 30) #[] #[(Pt b12 0)]), (Bo (A_m.tris.any (fun x => !triOk (A_m.places.length : Int) x))), v24, v25, v26, v27, v28, v29, v30, v31, Ud, Ud, Ud, Ud, Ud, Ud]) rfl (fun _ => rfl) (fun u hu hF => ?_) (fun v31 => ?_)
  · have h10_ : v26 = (Bo (!β1)) := hF.1
    have h14_ : (!β1) = true → v30 = (Bo β2) := hF.2.1
    clear hF
    refine doesG_un rfl ?_
    skip
    obtain rfl := h10_
    refine (does_pick (b := (!β1)) (u := v30) (v := (Bo false)) (ev rfl) (ev rfl) (ev rfl)).mono ?_; rintro _ _ ⟨rfl, rfl⟩; refine ⟨?_, Ext.refl _⟩; skip
    cases hbb : (!β1)
    all_goals first | (show _ = _; simp only [↓reduceIte, Bool.true_and, Bool.false_and, Bool.true_or, Bool.false_or, Bool.false_eq_true]; done) | (have e_ := h14_ hbb; subst e_; show _ = _; simp only [↓reduceIte, Bool.true_and, Bool.false_and, Bool.true_or, Bool.false_or, Bool.false_eq_true]; done) | rfl | (have e_ := h14_ hbb; subst e_; rfl) | (simp [hbb] at h14_ ⊢; first | done | rfl | (subst h14_; rfl) | simp_all) | (simp [hbb] at h14_ ⊢; done)
  refine RW_d (fun v32 => [(.agg #[(.slice p5 A_m.places.length q6), (.slice p8 A_m.tris.length q9)]), (Pt b12 0), (Bo false), (Bo (A_m.tris.any (fun x => !triOk (A_m.places.length : Int) x))), (Pt b12 1), (.slice p8 A_m.tris.length q9), (.func (.func 30) #[] #[(Pt b12 0)]), (Bo (A_m.tris.any (fun x => !triOk (A_m.places.length : Int) x))), v24, v25, v26, v27, v28, v29, v30, v31, v32, Ud, Ud, Ud, Ud, Ud]) rfl (fun _ => rfl) (fun u hu hF => ?_) (fun v32 => ?_)
  · have h15_ : v31 = (Bo ((!β1) && β2)) := hF.1
    clear hF
    refine doesG_un rfl ?_
    obtain rfl := h15_
    refine (does_move (u := (Bo ((!β1) && β2))) (ev rfl)).mono ?_; rintro _ _ ⟨rfl, rfl⟩
    exact ⟨rfl, Ext.refl _⟩
  refine RW_d (fun v33 => [(.agg #[(.slice p5 A_m.places.length q6), (.slice p8 A_m.tris.length q9)]), (Pt b12 0), (Bo false), (Bo (A_m.tris.any (fun x => !triOk (A_m.places.length : Int) x))), (Pt b12 1), (.slice p8 A_m.tris.length q9), (.func (.func 30) #[] #[(Pt b12 0)]), (Bo (A_m.tris.any (fun x => !triOk (A_m.places.length : Int) x))), v24, v25, v26, v27, v28, v29, v30, v31, v32, v33, Ud, Ud, Ud, Ud]) rfl (fun _ => rfl) (fun u hu hF => ?_) (fun v33 => ?_)
  · have h16_ : v32 = (Bo ((!β1) && β2)) := hF.1
    clear hF
    obtain rfl := h16_
    refine doesG_g (b := ((!β1) && β2)) rfl (yld rfl rfl) (fun hg1 => ?_) (fun hc => ⟨fun hg1 => absurd hg1 hc, Ext.refl _⟩)
    refine (does_fieldAddr (ev rfl) fa29_1).mono ?_; rintro _ _ ⟨rfl, rfl⟩
    exact ⟨fun _ => rfl, Ext.refl _⟩
  refine RW_d (fun v34 => [(.agg #[(.slice p5 A_m.places.length q6), (.slice p8 A_m.tris.length q9)]), (Pt b12 0), (Bo false), (Bo (A_m.tris.any (fun x => !triOk (A_m.places.length : Int) x))), (Pt b12 1), (.slice p8 A_m.tris.length q9), (.func (.func 30) #[] #[(Pt b12 0)]), (Bo (A_m.tris.any (fun x => !triOk (A_m.places.length : Int) x))), v24, v25, v26, v27, v28, v29, v30, v31, v32, v33, v34, Ud, Ud, Ud]) rfl (fun _ => rfl) (fun u hu hF => ?_) (fun v34 => ?_)
  · have h17_ : ((!β1) && β2) = true → v33 = (Pt b12 1) := hF.1
    have h16_ : v32 = (Bo ((!β1) && β2)) := hF.2.1
    clear hF
    obtain rfl := h16_
    refine doesG_g (b := ((!β1) && β2)) rfl (yld rfl rfl) (fun hg1 => ?_) (fun hc => ⟨fun hg1 => absurd hg1 hc, Ext.refl _⟩)
    obtain rfl := h17_ hg1
    refine (does_load (u := (.slice p8 A_m.tris.length q9)) (ev rfl) Try.isAgg23 (Cells.at (Blk.cells ((hB14.ext E20).ext hu)) 1 rfl)).mono ?_; rintro _ _ ⟨rfl, rfl⟩
    exact ⟨fun _ => rfl, Ext.refl _⟩
  refine RW_d (fun v35 => [(.agg #[(.slice p5 A_m.places.length q6), (.slice p8 A_m.tris.length q9)]), (Pt b12 0), (Bo false), (Bo (A_m.tris.any (fun x => !triOk (A_m.places.length : Int) x))), (Pt b12 1), (.slice p8 A_m.tris.length q9), (.func (.func 30) #[] #[(Pt b12 0)]), (Bo (A_m.tris.any (fun x => !triOk (A_m.places.length : Int) x))), v24, v25, v26, v27, v28, v29, v30, v31, v32, v33, v34, v35, Ud, Ud]) rfl (fun _ => rfl) (fun u hu hF => ?_) (fun v35 => ?_)
  · have h18_ : ((!β1) && β2) = true → v34 = (.slice p8 A_m.tris.length q9) := hF.1
    have h16_ : v32 = (Bo ((!β1) && β2)) := hF.2.1
    clear hF
    obtain rfl := h16_
    refine doesG_g (b := ((!β1) && β2)) rfl (yld rfl rfl) (fun hg1 => ?_) (fun hc => ⟨fun hg1 => absurd hg1 hc, Ext.refl _⟩)
    obtain rfl := h18_ hg1
    refine (does_len_slice Try.underlying23 (ev rfl)).mono ?_; rintro _ _ ⟨rfl, rfl⟩
    exact ⟨fun _ => rfl, Ext.refl _⟩
  refine RW_d (fun v36 => [(.agg #[(.slice p5 A_m.places.length q6), (.slice p8 A_m.tris.length q9)]), (Pt b12 0), (Bo false), (Bo (A_m.tris.any (fun x => !triOk (A_m.places.length : Int) x))), (Pt b12 1), (.slice p8 A_m.tris.length q9), (.func (.func 30) #[] #[(Pt b12 0)]), (Bo (A_m.tris.any (fun x => !triOk (A_m.places.length : Int) x))), v24, v25, v26, v27, v28, v29, v30, v31, v32, v33, v34, v35, v36, Ud]) rfl (fun _ => rfl) (fun u hu hF => ?_) (fun v36 => ?_)
  · have h19_ : ((!β1) && β2) = true → v35 = (Iv (A_m.tris.length : Int)) := hF.1
    have h16_ : v32 = (Bo ((!β1) && β2)) := hF.2.1
    clear hF
    obtain rfl := h16_
    refine doesG_g (b := ((!β1) && β2)) rfl (yld rfl rfl) (fun hg1 => ?_) (fun hc => ⟨fun hg1 => absurd hg1 hc, Ext.refl _⟩)
    obtain rfl := h19_ hg1
    refine (does_icmp (p := (A_m.tris.length : Int)) (q := 9000) (.inr (.inr (.inr (.inl rfl)))) (ev rfl) (ev rfl)).mono ?_; rintro _ _ ⟨rfl, rfl⟩
    exact ⟨fun _ => (by first | rfl | (show _ = _; simp only [hβ3]; done) | (show _ = _; simp only [hβ3]; rfl)), Ext.refl _⟩
  refine RW_d (fun v37 => [(.agg #[(.slice p5 A_m.places.length q6), (.slice p8 A_m.tris.length q9)]), (Pt b12 0), (Bo false), (Bo (A_m.tris.any (fun x => !triOk (A_m.places.length : Int) x))), (Pt b12 1), (.slice p8 A_m.tris.length q9), (.func (.func 30) #[] #[(Pt b12 0)]), (Bo (A_m.tris.any (fun x => !triOk (A_m.places.length : Int) x))), v24, v25, v26, v27, v28, v29, v30, v31, v32, v33, v34, v35, v36, v37]) rfl (fun _ => rfl) (fun u hu hF => ?_) (fun v37 => ?_)
  · have h16_ : v32 = (Bo ((!β1) && β2)) := hF.1
    have h20_ : ((!β1) && β2) = true → v36 = (Bo β3) := hF.2.1
    clear hF
    refine doesG_un rfl ?_
    skip
    obtain rfl := h16_
    refine (does_pick (b := ((!β1) && β2)) (u := v36) (v := (Bo false)) (ev rfl) (ev rfl) (ev rfl)).mono ?_; rintro _ _ ⟨rfl, rfl⟩; refine ⟨?_, Ext.refl _⟩; skip
    cases hbb : ((!β1) && β2)
    all_goals first | (show _ = _; simp only [↓reduceIte, Bool.true_and, Bool.false_and, Bool.true_or, Bool.false_or, Bool.false_eq_true]; done) | (have e_ := h20_ hbb; subst e_; show _ = _; simp only [↓reduceIte, Bool.true_and, Bool.false_and, Bool.true_or, Bool.false_or, Bool.false_eq_true]; done) | rfl | (have e_ := h20_ hbb; subst e_; rfl) | (simp [hbb] at h20_ ⊢; first | done | rfl | (subst h20_; rfl) | simp_all) | (simp [hbb] at h20_ ⊢; done)
  refine RW_fin ?_; intro w38 E39 hP40
  obtain ⟨⟨⟨⟨⟨⟨⟨⟨⟨⟨⟨⟨⟨⟨-, -⟩, -⟩, -⟩, -⟩, -⟩, -⟩, -⟩, -⟩, -⟩, -⟩, -⟩, -⟩, -⟩, q41⟩ := hP40
  have X42 := Ext.gr X22 E39
  have q41 : v37 = (Bo (((!β1) && β2) && β3)) := q41
  obtain rfl := q41
  show wpList _ _ _ _ (fr [(.agg #[(.slice p5 A_m.places.length q6), (.slice p8 A_m.tris.length q9)]), (Pt b12 0), (Bo false), (Bo (A_m.tris.any (fun x => !triOk (A_m.places.length : Int) x))), (Pt b12 1), (.slice p8 A_m.tris.length q9), (.func (.func 30) #[] #[(Pt b12 0)]), (Bo (A_m.tris.any (fun x => !triOk (A_m.places.length : Int) x))), v24, v25, v26, v27, v28, v29, v30, v31, v32, v33, v34, v35, v36, (Bo (((!β1) && β2) && β3))]) _
  refine q_is (l' := [(.agg #[(.slice p5 A_m.places.length q6), (.slice p8 A_m.tris.length q9)]), (Pt b12 0), (Bo (((!β1) && β2) && β3)), (Bo (A_m.tris.any (fun x => !triOk (A_m.places.length : Int) x))), (Pt b12 1), (.slice p8 A_m.tris.length q9), (.func (.func 30) #[] #[(Pt b12 0)]), (Bo (A_m.tris.any (fun x => !triOk (A_m.places.length : Int) x))), v24, v25, v26, v27, v28, v29, v30, v31, v32, v33, v34, v35, v36, (Bo (((!β1) && β2) && β3))]) rfl rfl (does_assign (u := (Bo (((!β1) && β2) && β3))) (ev rfl)) rfl ?_
  refine wpList_nil (hK23 _ _ ?_)
  refine wp_ret ?_
  refine ret_val (v := (Bo (((!β1) && β2) && β3))) (res_T rfl (slot rfl)) X42 ?_
  have x43 : (meshOk A_m) = (((!β1) && β2) && β3) := by first | with_reducible rfl | (simp only [meshOk, hβ1, hβ2, hβ3]; done) | (simp [meshOk, hβ1, hβ2, hβ3]; done) | rfl
  exact (by first | with_reducible rfl | rw [x43] | rfl)

/- slices.Clone[[]impl.Vector,impl.Vector] -/
theorem c_slices_Clone_impl_Vector_impl_Vector (xs : Value) (L_xs : List V3) (w : World) (hv_xs : Sl RV3 3 w xs L_xs) (hne : L_xs.length ≤ 1048576) : Gives Try.prog 32 #[xs] w (fun v w' => ∃ y_1 : Value, ∃ Lw_2 : List Nat, v = y_1 ∧ Hang w.heap.size w' (fun u => Sl RV3 3 u y_1 L_xs) ∧ WL 3 w.heap.size w' Lw_2 y_1 L_xs.length) := by
  have hlen_xs := Sl.len hv_xs; obtain ⟨p_xs, q_xs, rfl⟩ := Sl.shape hv_xs
  refine enter [(.slice p_xs L_xs.length q_xs), Ud, Ud, Ud, Ud, Ud, Ud, Ud] Try.func32 rfl Try.ntmps32 rfl ?_
  refine wp_seq_k fun K1 hK1 => ?_
  refine wp_region_lit ?_
  refine q_is (l' := [(.slice p_xs L_xs.length q_xs), Ud, (.slice none 0 0), Ud, Ud, Ud, Ud, Ud]) rfl rfl (does_assign (u := (.slice none 0 0)) (ev rfl)) rfl ?_
  refine wpList_nil (hK1 _ _ ?_)
  refine wp_seq_k fun K2 hK2 => ?_
  refine wp_seq_k fun K3 hK3 => ?_
  refine wp_region_lit ?_
  refine q_is (l' := [(.slice p_xs L_xs.length q_xs), Ud, (.slice none 0 0), (.slice p_xs L_xs.length q_xs), Ud, Ud, Ud, Ud]) rfl rfl (does_move (u := (.slice p_xs L_xs.length q_xs)) (ev rfl)) rfl ?_
  refine q_is (l' := [(.slice p_xs L_xs.length q_xs), Ud, (.slice none 0 0), (.slice p_xs L_xs.length q_xs), (Bo p_xs.isNone), Ud, Ud, Ud]) rfl rfl (does_slnil Try.underlying27 (ev rfl) (ev rfl)) rfl ?_
  refine wpList_nil (hK3 _ _ ?_)
  refine wp_cond_split (t := p_xs.isNone) (ev rfl) (fun c4 => ?_) (fun c4 => ?_)
  · have c4' := c4
    refine wp_seq_k fun K5 hK5 => ?_
    refine wp_region_lit ?_
    refine q_is (l' := [(.slice p_xs L_xs.length q_xs), Ud, (.slice none 0 0), (.slice p_xs L_xs.length q_xs), (Bo p_xs.isNone), Ud, Ud, Ud]) rfl rfl (does_assign (u := (.slice none 0 0)) (ev rfl)) rfl ?_
    refine wpList_nil (hK5 _ _ ?_)
    refine wp_ret ?_
    dsimp only [Exit.then, Exit.inBlock]
    refine ret_val (v := (.slice none 0 0)) (res_T rfl (slot rfl)) (Ext.refl w) ?_
    have x6 : ([]) = L_xs := by first | exact (Sl_isNone hv_xs c4).symm | exact List.nil_append _ | rfl
    have x7 : ([]) = L_xs := by first | exact (Sl_isNone hv_xs c4).symm | exact List.nil_append _ | rfl
    exact ⟨(.slice none 0 0), [], rfl, (Hang.castL (Sl.hang_nil _ _ _ _) x6), (WL.cast (WL.nil _ _ _) (congrArg List.length x7))⟩
  have c4' := c4
  refine wp_skip (hK2 _ _ ?_)
  refine wp_seq_k fun K8 hK8 => ?_
  refine wp_region_lit ?_
  refine seqd rfl rfl (does_slice0 (e := 53) (fun _ => by kernel_rfl)) ?_; rintro _ w14 ⟨b9, rfl, hb10, hl11, hO12, E13⟩
  have X15 := Ext.gr (Ext.refl w) E13
  have hO16 := hO12 _ RV3 3
  have hH17 : Hang w.heap.size w14 (fun u => Sl RV3 3 u (.slice (some ⟨b9, 0, none⟩) 0 0) ([])) := Own.hang hO16 RV3.flat (by decide) hb10 (Below.size E13)
  show wpList _ _ _ _ (fr [(.slice p_xs L_xs.length q_xs), Ud, (.slice none 0 0), (.slice p_xs L_xs.length q_xs), (Bo p_xs.isNone), (.slice (some ⟨b9, 0, none⟩) 0 0), Ud, Ud]) _
  refine q_is (l' := [(.slice p_xs L_xs.length q_xs), Ud, (.slice none 0 0), (.slice p_xs L_xs.length q_xs), (Bo p_xs.isNone), (.slice (some ⟨b9, 0, none⟩) 0 0), (.slice p_xs L_xs.length q_xs), Ud]) rfl rfl (does_move (u := (.slice p_xs L_xs.length q_xs)) (ev rfl)) rfl ?_
  refine seqd rfl rfl (does_appendS' (R := RV3) (k := 3) (g0 := b9) (B := w14.heap.size) (xs := ([])) (ys := L_xs) Try.underlying27 inf53 rfl (by decide) oneV3 (ev rfl) (ev rfl) hO16 RV3.flat (Sl.ext hv_xs RV3.mono X15) (by first | (simp only [List.length_nil]; omega) | omega) (Nat.le_refl _)) ?_; rintro y' w18 ⟨gg19, hg20, K21, hO22⟩
  have hN23 : w.heap.size ≤ gg19 := by rcases hg20 with h | h; exact h ▸ hb10; exact Nat.le_trans (Below.size E13) h
  have g24 : w.heap.size ≤ gg19 := Nat.le_trans (Nat.le_refl _) hN23
  have X25 := Below.kl X15 K21 (allS g24 all0) (Nat.le_refl _)
  replace hO22 := hO22.cast (List.nil_append _)
  obtain ⟨p26, q27, rfl⟩ := Own.shape hO22
  have hH28 : Hang w.heap.size w18 (fun u => Sl RV3 3 u (.slice p26 L_xs.length q27) L_xs) := Own.hang hO22 RV3.flat (by decide) hb10 (Below.size E13)
  show wpList _ _ _ _ (fr [(.slice p_xs L_xs.length q_xs), Ud, (.slice none 0 0), (.slice p_xs L_xs.length q_xs), (Bo p_xs.isNone), (.slice (some ⟨b9, 0, none⟩) 0 0), (.slice p_xs L_xs.length q_xs), (.slice p26 L_xs.length q27)]) _
  refine q_is (l' := [(.slice p_xs L_xs.length q_xs), Ud, (.slice p26 L_xs.length q27), (.slice p_xs L_xs.length q_xs), (Bo p_xs.isNone), (.slice (some ⟨b9, 0, none⟩) 0 0), (.slice p_xs L_xs.length q_xs), (.slice p26 L_xs.length q27)]) rfl rfl (does_assign (u := (.slice p26 L_xs.length q27)) (ev rfl)) rfl ?_
  refine wpList_nil (hK8 _ _ ?_)
  refine wp_ret ?_
  refine ret_val (v := (.slice p26 L_xs.length q27)) (res_T rfl (slot rfl)) X25 ?_
  obtain ⟨Lw29, hw30⟩ : ∃ L, WL 3 w.heap.size w18 L (.slice p26 L_xs.length q27) L_xs.length := Own.wl hO22 (Nat.le_trans (Nat.le_refl _) hb10) (Nat.le_trans (Nat.le_refl _) (Below.size E13))
  exact ⟨(.slice p26 L_xs.length q27), Lw29, rfl, (Own.hang hO22 RV3.flat (by decide) (Nat.le_trans (Nat.le_refl _) hb10) (Nat.le_trans (Nat.le_refl _) (Below.size E13))), hw30⟩

/- impl.renamed -/
theorem c_impl_renamed (places : Value) (L_places : List V3) (triangles : Value) (L_triangles : List (List Int)) (of : Value) (D_of : List Int → Prop) (pr_of : List Int → List Int) (w : World) (hv_places : Sl RV3 3 w places L_places) (hv_triangles : Sl (RS RI 1) 1 w triangles L_triangles) (hv_of : ∃ fi fst cap, of = .func (.func fi) fst cap ∧ (∀ args w, (callFunc fi args).run Try.prog w = .ok (.enter fi args) w) ∧ ∀ (y : Value) (X : List Int) u, D_of X → Ext w u → Sl RI 1 u y X → Gives Try.prog fi (fst ++ #[y] ++ cap) u (fun v w' => ∃ y_1 : Value, ∃ Lw_2 : List Nat, v = y_1 ∧ Hang u.heap.size w' (fun u => Sl RI 1 u y_1 (pr_of X)) ∧ WL 1 u.heap.size w' Lw_2 y_1 (pr_of X).length)) (hne : L_places.length ≤ 1048576) (hD : ∀ t ∈ L_triangles, D_of t) (hn : L_triangles.length ≤ 100000) : Gives Try.prog 17 #[places, triangles, of] w (fun v w' => ∃ cs_1 : List Value, ∃ Lw_2 : List Nat, v = (.agg cs_1.toArray) ∧ Hang w.heap.size w' (fun u => RMeshT u (MeshT.mk L_places (L_triangles.map pr_of)) cs_1) ∧ WLM w.heap.size w' Lw_2 (cellN cs_1 0) (cellN cs_1 1) (MeshT.mk L_places (L_triangles.map pr_of))) := by
  have hlen_places := Sl.len hv_places; obtain ⟨p_places, q_places, rfl⟩ := Sl.shape hv_places
  have hlen_triangles := Sl.len hv_triangles; obtain ⟨p_triangles, q_triangles, rfl⟩ := Sl.shape hv_triangles
  obtain ⟨f_of, s_of, c_of, rfl, hcal_of, hg_of⟩ := hv_of
  refine enter [(.slice p_places L_places.length q_places), (.slice p_triangles L_triangles.length q_triangles), (.func (.func f_of) s_of c_of), Ud, Ud, Ud, Ud, Ud, Ud, Ud, Ud, Ud, Ud, Ud, Ud, Ud, Ud, Ud, Ud, Ud, Ud, Ud, Ud, Ud, Ud, Ud, Ud, Ud, Ud] Try.func17 rfl Try.ntmps17 rfl ?_
  refine wp_seq_k fun K1 hK1 => ?_
  refine wp_region_lit ?_
  refine seqd rfl rfl (does_alloc z29) ?_; rintro _ w6 ⟨b2, rfl, hb3, hB4, E5⟩
  have g7 : w.heap.size ≤ b2 := Nat.le_trans (Below.size (Ext.refl w)) hb3
  change Blk _ _ [(.slice none 0 0), (.slice none 0 0)] at hB4
  have X8 := Ext.gr (Ext.refl w) E5
  show wpList _ _ _ _ (fr [_, _, _, _, _, _, _, _, _, _, _, _, _, _, _, _, _, _, _, _, _, _, _, _, _, _, _, _, _]) _
  refine wpList_nil (hK1 _ _ ?_)
  refine wp_seq_k fun K9 hK9 => ?_
  refine wp_region_lit ?_
  refine q_is rfl rfl (does_move (u := (.slice p_places L_places.length q_places)) (ev rfl)) (by dsimp only [List.set]; try rfl) ?_
  refine seqd rfl rfl (does_call (args := #[(.slice p_places L_places.length q_places)]) cal32 (evs rfl) (c_slices_Clone_impl_Vector_impl_Vector (.slice p_places L_places.length q_places) L_places _ (Sl.ext hv_places RV3.mono X8) (by exact hne))) ?_; rintro _ w11 ⟨E10, ⟨y13, Lw14, rfl, hh12, hw15⟩⟩
  have X16 := Ext.gr X8 E10
  have n17 : b2 < w6.heap.size := Blk.lt hB4
  obtain ⟨p18, q19, rfl⟩ := Sl.shape hh12.get
  have hw20 : WL 3 w6.heap.size w11 Lw14 (.slice p18 L_places.length q19) L_places.length := hw15
  show wpList _ _ _ _ (fr [_, _, _, _, _, _, _, _, _, _, _, _, _, _, _, _, _, _, _, _, _, _, _, _, _, _, _, _, _]) _
  refine q_is rfl rfl (does_build (parts' := [(0, (.slice p18 L_places.length q19))]) (cells := #[(.slice p18 L_places.length q19), (.slice none 0 0)]) (evp rfl) (by kernel_rfl)) (by dsimp only [List.set]; try rfl) ?_
  refine seqd rfl rfl (does_alloc z29) ?_; rintro _ w25 ⟨b21, rfl, hb22, hB23, E24⟩
  have n26 : b2 < b21 := Nat.lt_of_lt_of_le (Blk.lt (hB4.ext E10)) hb22
  have g27 : w.heap.size ≤ b21 := Nat.le_trans (Below.size X16) hb22
  change Blk _ _ [(.slice none 0 0), (.slice none 0 0)] at hB23
  have X28 := Ext.gr X16 E24
  show wpList _ _ _ _ (fr [_, _, _, _, _, _, _, _, _, _, _, _, _, _, _, _, _, _, _, _, _, _, _, _, _, _, _, _, _]) _
  refine seqn rfl rfl (does_store (n := 2) (cs := [(.slice none 0 0), (.slice none 0 0)]) (u := (.agg #[(.slice p18 L_places.length q19), (.slice none 0 0)])) (ev rfl) (ev rfl) Try.sizeOf29 rfl hB23 (Nat.le_of_ble_eq_true rfl) rfl) ?_; rintro _ w31 ⟨rfl, W29, hB30⟩
  change Blk _ _ [(.slice p18 L_places.length q19), (.slice none 0 0)] at hB30
  have X32 := Below.wr X28 W29 g27
  refine wpList_nil (hK9 _ _ ?_)
  refine wp_seq_k fun K33 hK33 => ?_
  refine wp_seq_k fun K34 hK34 => ?_
  refine wp_region_lit ?_
  refine q_is rfl rfl (does_move (u := (.slice p_triangles L_triangles.length q_triangles)) (ev rfl)) (by dsimp only [List.set]; try rfl) ?_
  refine q_is rfl rfl (does_len_slice Try.underlying23 (ev rfl)) (by dsimp only [List.set]; try rfl) ?_
  refine q_is rfl rfl (does_move (u := (Iv 0)) (ev rfl)) (by dsimp only [List.set]; try rfl) ?_
  refine wpList_nil (hK34 _ _ ?_)
  refine wp_block ?_
  have n36 : b2 < w31.heap.size := Blk.lt (((hB4.ext E10).ext E24).wr W29 (Nat.ne_of_lt n26))
  have n37 : b21 < w31.heap.size := Blk.lt hB30
  obtain ⟨gg38, hg39, hg40, hO41⟩ := OwnN.start' (OwnN.nil (R := RI) (k := 1) (e := 40) (C := w31.heap.size) (g0 := w31.heap.size) (B := w31.heap.size) (w := w31)) (OwnN.nil (R := RI) (k := 1) (e := 40) (C := w31.heap.size) (g0 := w31.heap.size) (B := w31.heap.size) (w := w31))
  have hN42 : w31.heap.size ≤ gg38 := by rcases hg39 with h | h; exact h ▸ (Nat.le_refl _); exact Nat.le_trans (Nat.le_refl _) h
  have g43 : w.heap.size ≤ gg38 := Nat.le_trans (Nat.le_trans (Nat.le_trans (Nat.le_trans (Below.size E5) (Below.size E10)) (Below.size E24)) (Nat.le_of_eq (Eq.symm (Wr.size W29)))) hN42
  refine loop_ghost (σ := Nat) (fun k a w' => ∃ u35 : Nat → Value, ∃ y7_1 : Value, a = fr [(.slice p_places L_places.length q_places), (.slice p_triangles L_triangles.length q_triangles), (.func (.func f_of) s_of c_of), Ud, Ud, Ud, (Pt b2 0), (Pt b21 0), Ud, (u35 9), (.slice p_places L_places.length q_places), (.slice p18 L_places.length q19), (.agg #[(.slice p18 L_places.length q19), (.slice none 0 0)]), (.slice p_triangles L_triangles.length q_triangles), (Iv (L_triangles.length : Int)), (Iv (k : Int)), (u35 16), (u35 17), (u35 18), (u35 19), (u35 20), (u35 21), (u35 22), (u35 23), (u35 24), (u35 25), (u35 26), (u35 27), Ud] ∧ KpL [gg38, b21] w31 w' ∧ OwnN RI 1 40 w31.heap.size gg38 w31.heap.size w' y7_1 ((L_triangles.take k).map pr_of) ∧ Blk w' b21 [(.slice p18 L_places.length q19), y7_1] ∧ (k ≤ L_triangles.length)) (fun k => L_triangles.length - k) 0 ?_ ?_
  · refine ⟨fun t => (([(.slice p_places L_places.length q_places), (.slice p_triangles L_triangles.length q_triangles), (.func (.func f_of) s_of c_of), Ud, Ud, Ud, (Pt b2 0), (Pt b21 0), Ud, Ud, (.slice p_places L_places.length q_places), (.slice p18 L_places.length q19), (.agg #[(.slice p18 L_places.length q19), (.slice none 0 0)]), (.slice p_triangles L_triangles.length q_triangles), (Iv (L_triangles.length : Int)), (Iv 0), Ud, Ud, Ud, Ud, Ud, Ud, Ud, Ud, Ud, Ud, Ud, Ud, Ud] : List Value)[t]?).getD undef, (.slice none 0 0), rfl, KpL.refl _ _, (OwnN.cast (OwnN.reC hO41) (by rfl)), hB30, ?_⟩
    exact Nat.zero_le _
  · rintro k a w44 ⟨u35, y7_1, rfl, E45, hO47, hB48, hk⟩
    have X49 := Below.kl X32 E45 (allS g43 (allS g27 all0)) (Nat.le_refl _)
    obtain ⟨p50, q51, rfl⟩ := OwnN.shape hO47
    have hH52 : Hang w31.heap.size w44 (fun u => Sl (RS RI 1) 1 u (.slice p50 (((L_triangles.take k).map pr_of).length) q51) ((L_triangles.take k).map pr_of)) := OwnN.hang hO47 RI.flat (by decide) hN42 (Nat.le_refl _) (Nat.le_refl _)
    refine wp_seq_k fun K53 hK53 => ?_
    refine wp_region_lit ?_
    refine q_is rfl rfl (does_icmp (p := (k : Int)) (q := (L_triangles.length : Int)) (.inr (.inr (.inl rfl))) (ev rfl) (ev rfl)) (by dsimp only [List.set]; try rfl) ?_
    refine wpList_nil (hK53 _ _ ?_)
    refine wp_seq_k fun K54 hK54 => ?_
    refine wp_cond_split (t := icmp .lss (k : Int) (L_triangles.length : Int)) (ev rfl) (fun c55 => ?_) (fun c55 => ?_)
    · have c55' := c55
      (try simp only [icmp, Bool.and_eq_true, Bool.or_eq_true, Bool.and_eq_false_iff, Bool.or_eq_false_iff, Bool.not_eq_true', Bool.not_eq_false', decide_eq_true_eq, decide_eq_false_iff_not, beq_iff_eq, bne_iff_ne, beq_eq_false_iff_ne, bne_eq_false_iff_eq] at c55')
      refine wp_skip (hK54 _ _ ?_)
      refine wp_seq_k fun K56 hK56 => ?_
      refine wp_block ?_
      refine wp_seq_k fun K57 hK57 => ?_
      refine wp_region_lit ?_
      obtain ⟨el1, hel1⟩ : ∃ e, L_triangles[k]? = some e := ⟨_, List.getElem?_eq_getElem (by omega)⟩
      refine seqd rfl rfl (does_indexSl (R := (RS RI 1)) (i := (k : Int)) (xs := L_triangles) (e := el1) Try.underlying23 Try.sizeOf40 (ev rfl) (ev rfl) (Sl.ext hv_triangles (RS.mono RI.mono) X49) (by omega) hel1) ?_; rintro _ w44 ⟨b58, o59, _, rfl, hc61, ⟨y62, rfl, h63⟩, rfl⟩
      have hs66 := h63; have hs66l := Sl.len h63; obtain ⟨p64, q65, rfl⟩ := Sl.shape h63
      show wpList _ _ _ _ (fr [_, _, _, _, _, _, _, _, _, _, _, _, _, _, _, _, _, _, _, _, _, _, _, _, _, _, _, _, _]) _
      refine q_is rfl rfl (does_load (u := (.slice p64 el1.length q65)) (ev rfl) Try.isAgg40 (Cells.at hc61 0 rfl)) (by dsimp only [List.set]; try rfl) ?_
      refine q_is rfl rfl (does_assign (u := (.slice p64 el1.length q65)) (ev rfl)) (by dsimp only [List.set]; try rfl) ?_
      refine wpList_nil (hK57 _ _ ?_)
      refine region_any2 [] [0, 1, 0, 0, 12, 28, 63, 127, 255] [] (
        [FactW.pure [] [] [] true (fun v => v = (Pt b21 1)),
          FactW.pure [0] [] [] true (fun v => v = (.slice p50 (((L_triangles.take k).map pr_of).length) q51)),
          FactW.pure [] [] [] true (fun v => v = (.func (.func f_of) s_of c_of)),
          FactW.pure [] [] [] true (fun v => v = (.slice p64 el1.length q65)),
          FactW.mem [3, 2] [] [] [] true (fun v w' => ∃ y_1 : Value, ∃ Lw_2 : List Nat, v = y_1 ∧ Hang w44.heap.size w' (fun u => Sl RI 1 u y_1 (pr_of el1)) ∧ WL 1 w44.heap.size w' Lw_2 y_1 (pr_of el1).length) (by rintro v w1 w2 hx' ⟨z1, z2, rfl, k0, k1⟩; have hx := KpL.toExt hx'; exact ⟨_, _, rfl, (k0.ext hx), (k1.same (Same.of_ext hx))⟩),
          FactW.mem [4] [] [] [] true (fun v w' => ∃ b : Nat, ∃ y_1 : Value, ∃ Lw_2 : List Nat, v = .slice (some ⟨b, 0, none⟩) 1 1 ∧ w44.heap.size ≤ b ∧ Blk w' b [y_1] ∧ Hang w44.heap.size w' (fun u => Sl RI 1 u y_1 (pr_of el1)) ∧ WL 1 w44.heap.size w' Lw_2 y_1 (pr_of el1).length) (by rintro v w1 w2 hx' ⟨b, z0, z1, rfl, hb, hB, k0, k1⟩; have hx := KpL.toExt hx'; exact ⟨b, z0, z1, rfl, hb, hB.ext hx, k0.ext hx, k1.same (Same.of_ext hx)⟩)]) mixed (by kernel_rfl) ?_
      obtain ⟨w67, hw69⟩ : ∃ w', w' = World.drew w44 := ⟨_, rfl⟩; rw [← hw69]; have E68 : Ext w44 w67 := by rw [hw69]; exact Ext.draw _
      clear hw69
      have X70 := Ext.gr X49 E68
      refine RW2_d _ rfl (fun v => by dsimp only [List.set]; try rfl) (fun u hu hF => ?_) (fun v71 => ?_)
      · replace hu : KpL [] _ _ := hu
        clear hF
        refine doesG_un rfl ?_
        refine (does_fieldAddr (ev rfl) fa29_1).mono ?_; rintro _ _ ⟨rfl, rfl⟩
        exact ⟨rfl, KpL.refl _ _⟩
      refine RW2_d _ rfl (fun v => by dsimp only [List.set]; try rfl) (fun u hu hF => ?_) (fun v72 => ?_)
      · replace hu : KpL [] _ _ := hu
        have h19_ : v71 = (Pt b21 1) := hF.1
        clear hF
        refine doesG_un rfl ?_
        obtain rfl := h19_
        refine (does_load (u := (.slice p50 (((L_triangles.take k).map pr_of).length) q51)) (ev rfl) Try.isAgg23 (Cells.at (Blk.cells ((hB48.ext E68).ext (KpL.toExt hu))) 1 rfl)).mono ?_; rintro _ _ ⟨rfl, rfl⟩
        exact ⟨rfl, KpL.refl _ _⟩
      refine RW2_d _ rfl (fun v => by dsimp only [List.set]; try rfl) (fun u hu hF => ?_) (fun v73 => ?_)
      · replace hu : KpL [] _ _ := hu
        clear hF
        refine doesG_un rfl ?_
        refine (does_move (u := (.func (.func f_of) s_of c_of)) (ev rfl)).mono ?_; rintro _ _ ⟨rfl, rfl⟩
        exact ⟨rfl, KpL.refl _ _⟩
      refine RW2_d _ rfl (fun v => by dsimp only [List.set]; try rfl) (fun u hu hF => ?_) (fun v74 => ?_)
      · replace hu : KpL [] _ _ := hu
        clear hF
        refine doesG_un rfl ?_
        refine (does_move (u := (.slice p64 el1.length q65)) (ev rfl)).mono ?_; rintro _ _ ⟨rfl, rfl⟩
        exact ⟨rfl, KpL.refl _ _⟩
      refine RW2_d _ rfl (fun v => by dsimp only [List.set]; try rfl) (fun u hu hF => ?_) (fun v75 => ?_)
      · replace hu : KpL [] _ _ := hu
        have h22_ : v74 = (.slice p64 el1.length q65) := hF.1
        have h21_ : v73 = (.func (.func f_of) s_of c_of) := hF.2.1
        clear hF
        refine doesG_un rfl ?_
        obtain rfl := h22_
        obtain rfl := h21_
        refine (does_callf (args := #[(.slice p64 el1.length q65)]) (ev rfl) hcal_of (evs rfl) (hg_of (.slice p64 el1.length q65) el1 _ (by exact hD _ (List.mem_of_getElem? hel1)) (Ext.gr (Ext.gr X49 E68) (KpL.toExt hu)) (Sl.ext (Sl.ext hs66 RI.mono E68) RI.mono (KpL.toExt hu)))).mono ?_; rintro v u' ⟨hx, ⟨yn1, Lwn2, hv, k0, k1⟩⟩
        exact ⟨⟨yn1, Lwn2, hv, (Hang.le k0 (Nat.le_trans (Below.size E68) (KpL.size hu))), (WL.le k1 (Nat.le_trans (Below.size E68) (KpL.size hu)))⟩, (KpL.of_ext hx)⟩
      refine RW2_d _ rfl (fun v => by dsimp only [List.set]; try rfl) (fun u hu hF => ?_) (fun v76 => ?_)
      · replace hu : KpL [] _ _ := hu
        have h23_ : ∃ y_1 : Value, ∃ Lw_2 : List Nat, v75 = y_1 ∧ Hang w44.heap.size u (fun u => Sl RI 1 u y_1 (pr_of el1)) ∧ WL 1 w44.heap.size u Lw_2 y_1 (pr_of el1).length := hF.1
        clear hF
        refine doesG_un rfl ?_
        obtain ⟨y23_2, Lw23_3, rfl, hh23_1, hw23_4⟩ := h23_
        have ghh23_1 := hh23_1.get
        have hghh23_1 := ghh23_1; obtain ⟨p23_5, q23_6, rfl⟩ := Sl.shape ghh23_1
        refine (does_buildSlice (e := 40) (parts' := [(0, (.slice p23_5 ((pr_of el1).length) q23_6))]) (cells := [(.slice p23_5 ((pr_of el1).length) q23_6)]) (evp rfl) (fun _ => by kernel_rfl)).mono ?_; rintro _ _ ⟨b, rfl, hb, hB, hx⟩
        exact ⟨⟨b, (.slice p23_5 ((pr_of el1).length) q23_6), Lw23_3, rfl, Nat.le_trans (Nat.le_trans (Below.size E68) (KpL.size hu)) hb, hB, hh23_1.ext hx, hw23_4.same (Same.of_ext hx)⟩, (KpL.of_ext hx)⟩
      refine RW2_fin ?_; intro w77 E78 hP79; replace E78 : KpL [] _ _ := E78
      obtain ⟨⟨⟨⟨⟨⟨-, -⟩, q80⟩, -⟩, -⟩, -⟩, q81⟩ := hP79
      have X82 := Below.kl X70 E78 all0 (Nat.le_refl _)
      have q80 : v72 = (.slice p50 (((L_triangles.take k).map pr_of).length) q51) := q80 rfl
      obtain rfl := q80
      have q81 : ∃ b : Nat, ∃ y_1 : Value, ∃ Lw_2 : List Nat, v76 = .slice (some ⟨b, 0, none⟩) 1 1 ∧ w44.heap.size ≤ b ∧ Blk w77 b [y_1] ∧ Hang w44.heap.size w77 (fun u => Sl RI 1 u y_1 (pr_of el1)) ∧ WL 1 w44.heap.size w77 Lw_2 y_1 (pr_of el1).length := q81 rfl
      obtain ⟨b83, y86, Lw87, rfl, hb84, hB85, h88, h89⟩ := q81
      have n90 : b2 < b83 := Nat.lt_of_lt_of_le (Blk.lt ((((hB4.ext E10).ext E24).wr W29 (Nat.ne_of_lt n26)).kl E45 (ninS (Nat.ne_of_lt (Nat.lt_of_lt_of_le n36 hN42)) (ninS (Nat.ne_of_lt n26) nin0)))) hb84
      have n91 : b21 < b83 := Nat.lt_of_lt_of_le (Blk.lt hB48) hb84
      have n92 : b58 < b83 := Nat.lt_of_lt_of_le (cell_lt (Cells.at hc61 0 rfl)) hb84
      have g93 : w.heap.size ≤ b83 := Nat.le_trans (Below.size X49) hb84
      obtain ⟨p94, q95, rfl⟩ := Sl.shape h88.get
      have hw96 : WL 1 w44.heap.size w77 Lw87 (.slice p94 ((pr_of el1).length) q95) (pr_of el1).length := h89
      show wpList _ _ _ _ (fr [_, _, _, _, _, _, _, _, _, _, _, _, _, _, _, _, _, _, _, _, _, _, _, _, _, _, _, _, _]) _
      refine seqd rfl rfl (does_appendN (R := RI) (k := 1) (g0 := gg38) (B := w31.heap.size) (xs := ((L_triangles.take k).map pr_of)) (x := (pr_of el1)) (L := Lw87) (w0 := w44) Try.underlying23 inf40 rfl (ev rfl) (ev rfl) hO47 RI.flat (Below.kl (Ext.gr (Ext.refl _) E68) E78 all0 (Nat.le_refl _)) hB85 rfl (InS.of_wl hw96 h88.get rfl) (fun c hc => (hw96.1 c hc).1) (KpL.size E45) (by first | (simp only [List.length_append, List.length_cons, List.length_nil]; omega) | (simp only [List.length_map, List.length_take]; omega)) (Nat.le_trans (Nat.le_trans (KpL.size E45) (Below.size E68)) (KpL.size E78))) ?_; rintro y' w97 ⟨gg98, hg99, K100, hO101⟩
      have hN102 : w31.heap.size ≤ gg98 := by rcases hg99 with h | h; exact h ▸ hN42; exact Nat.le_trans (Nat.le_refl _) h
      have g103 : w.heap.size ≤ gg98 := Nat.le_trans (Nat.le_trans (Nat.le_trans (Nat.le_trans (Below.size E5) (Below.size E10)) (Below.size E24)) (Nat.le_of_eq (Eq.symm (Wr.size W29)))) hN102
      have X104 := Below.kl X82 K100 (allS g103 all0) (Nat.le_refl _)
      obtain ⟨p105, q106, rfl⟩ := OwnN.shape hO101
      have hH107 : Hang w31.heap.size w97 (fun u => Sl (RS RI 1) 1 u (.slice p105 ((((L_triangles.take k).map pr_of) ++ [(pr_of el1)]).length) q106) (((L_triangles.take k).map pr_of) ++ [(pr_of el1)])) := OwnN.hang hO101 RI.flat (by decide) hN42 (Nat.le_refl _) (Nat.le_refl _)
      show wpList _ _ _ _ (fr [_, _, _, _, _, _, _, _, _, _, _, _, _, _, _, _, _, _, _, _, _, _, _, _, _, _, _, _, _]) _
      refine q_is rfl rfl (does_fieldAddr (ev rfl) fa29_1) (by dsimp only [List.set]; try rfl) ?_
      refine seqn rfl rfl (does_store (n := 1) (cs := [(.slice p18 L_places.length q19), (.slice p50 (((L_triangles.take k).map pr_of).length) q51)]) (u := (.slice p105 ((((L_triangles.take k).map pr_of) ++ [(pr_of el1)]).length) q106)) (ev rfl) (ev rfl) Try.sizeOf23 rfl (((hB48.ext E68).kl E78 nin0).kl K100 (ninS (Nat.ne_of_lt (Nat.lt_of_lt_of_le n37 hN102)) nin0)) (Nat.le_of_ble_eq_true rfl) rfl) ?_; rintro _ w110 ⟨rfl, W108, hB109⟩
      change Blk _ _ [(.slice p18 L_places.length q19), (.slice p105 ((((L_triangles.take k).map pr_of) ++ [(pr_of el1)]).length) q106)] at hB109
      have X111 := Below.wr X104 W108 g27
      refine wpList_nil (hK56 _ _ ?_)
      refine wp_region_lit ?_
      refine q_is rfl rfl (does_iarith (p := (k : Int)) (q := 1) (r := (k : Int) + 1) (ev rfl) (ev rfl) (.inl ⟨rfl, (in_i64 (by omega) (by omega)).symm⟩)) (by dsimp only [List.set]; try rfl) ?_
      refine q_is rfl rfl (does_move (u := (Iv ((k : Int) + 1))) (ev rfl)) (by dsimp only [List.set]; try rfl) ?_
      refine wpList_nil ?_
      have hO112 := OwnN.cast (ys := ((fun (k : Nat) => (L_triangles.take k).map pr_of) (k + 1))) (OwnN.same hO101 RI.flat ((Same.refl _ _).wr W108 (.inl n37)) hN42 (Nat.le_refl _) (Nat.le_refl _)) (by (try dsimp only); exact map_take hel1)
      refine ⟨k + 1, ⟨fun t => (([(.slice p_places L_places.length q_places), (.slice p_triangles L_triangles.length q_triangles), (.func (.func f_of) s_of c_of), Ud, Ud, Ud, (Pt b2 0), (Pt b21 0), Ud, (.slice p64 el1.length q65), (.slice p_places L_places.length q_places), (.slice p18 L_places.length q19), (.agg #[(.slice p18 L_places.length q19), (.slice none 0 0)]), (.slice p_triangles L_triangles.length q_triangles), (Iv (L_triangles.length : Int)), (Iv ((k : Int) + 1)), (Bo (icmp .lss (k : Int) (L_triangles.length : Int))), (Pt b58 o59), (.slice p64 el1.length q65), v71, (.slice p50 (((L_triangles.take k).map pr_of).length) q51), v73, v74, v75, (.slice (some ⟨b83, 0, none⟩) 1 1), (.slice p105 ((((L_triangles.take k).map pr_of) ++ [(pr_of el1)]).length) q106), (Pt b21 1), (Iv ((k : Int) + 1)), Ud] : List Value)[t]?).getD undef, (.slice p105 ((((L_triangles.take k).map pr_of) ++ [(pr_of el1)]).length) q106), ?_, (KpL.more (KpL.more (KpL.more (KpL.ext E45 E68) E78 all0) K100 (allS (hg99.imp (fun h => by simp [h]) id) all0)) (KpL.of_wr W108) (allS (.inl (by simp)) all0)), hO112, hB109, ?_⟩, ?_⟩
      · first | rfl | (simp only [Int.natCast_add, Int.natCast_one]; rfl)
      · omega
      · omega
    have c55' := c55
    (try simp only [icmp, Bool.and_eq_true, Bool.or_eq_true, Bool.and_eq_false_iff, Bool.or_eq_false_iff, Bool.not_eq_true', Bool.not_eq_false', decide_eq_true_eq, decide_eq_false_iff_not, beq_iff_eq, bne_iff_ne, beq_eq_false_iff_ne, bne_eq_false_iff_eq] at c55')
    refine wp_exit ?_
    refine hK33 _ _ ?_
    refine wp_seq_k fun K113 hK113 => ?_
    refine wp_region_lit ?_
    refine q_is rfl rfl (does_loadAgg (cs := [(.slice p18 L_places.length q19), (.slice p50 (((L_triangles.take k).map pr_of).length) q51)]) (ev rfl) Try.isAgg29 Try.sizeOf29 (Blk.cells hB48) rfl) (by dsimp only [List.set]; try rfl) ?_
    refine seqn rfl rfl (does_store (n := 2) (cs := [(.slice none 0 0), (.slice none 0 0)]) (u := (.agg #[(.slice p18 L_places.length q19), (.slice p50 (((L_triangles.take k).map pr_of).length) q51)])) (ev rfl) (ev rfl) Try.sizeOf29 rfl ((((hB4.ext E10).ext E24).wr W29 (Nat.ne_of_lt n26)).kl E45 (ninS (Nat.ne_of_lt (Nat.lt_of_lt_of_le n36 hN42)) (ninS (Nat.ne_of_lt n26) nin0))) (Nat.le_of_ble_eq_true rfl) rfl) ?_; rintro _ w116 ⟨rfl, W114, hB115⟩
    change Blk _ _ [(.slice p18 L_places.length q19), (.slice p50 (((L_triangles.take k).map pr_of).length) q51)] at hB115
    have X117 := Below.wr X49 W114 g7
    refine wpList_nil (hK113 _ _ ?_)
    refine wp_ret ?_
    refine ret_val (v := (.agg #[(.slice p18 L_places.length q19), (.slice p50 (((L_triangles.take k).map pr_of).length) q51)])) (res_C rfl (slot rfl) (run_loadAgg (cs := [(.slice p18 L_places.length q19), (.slice p50 (((L_triangles.take k).map pr_of).length) q51)]) Try.isAgg29 Try.sizeOf29 (Blk.cells hB115) rfl)) X117 ?_
    obtain ⟨Lw118, hw119, _⟩ := OwnN.wll (OwnN.same hO47 RI.flat ((Same.refl _ _).wr W114 (.inl n36)) hN42 (Nat.le_refl _) (Nat.le_refl _)) hN42 (Nat.le_refl _) (Nat.le_refl _)
    have x120 : L_places = ((MeshT.mk L_places (L_triangles.map pr_of)).places) := by first | rfl | (rw [List.take_of_length_le (by omega)])
    have x121 : ((L_triangles.take k).map pr_of) = ((MeshT.mk L_places (L_triangles.map pr_of)).tris) := by first | rfl | (rw [List.take_of_length_le (by omega)])
    exact ⟨[(.slice p18 L_places.length q19), (.slice p50 (((L_triangles.take k).map pr_of).length) q51)], (Lw14 ++ Lw118), rfl, fun u hu => ⟨(.slice p18 L_places.length q19), (.slice p50 (((L_triangles.take k).map pr_of).length) q51), rfl, (Hang.castL ((Hang.to hh12 (((((Same.refl _ _).ext E24).wr W29 (.inr (Nat.le_trans (Nat.le_refl _) hb22))).kl E45 (allS (.inr (Nat.le_trans (Nat.le_trans (Below.size E24) (Nat.le_of_eq (Eq.symm (Wr.size W29)))) hN42)) (allS (.inr (Nat.le_trans (Nat.le_refl _) hb22)) all0))).wr W114 (.inl n17))).le (Below.size (Ext.gr (Ext.refl _) E5))) x120) u hu, (Hang.castL (OwnN.hang (OwnN.same hO47 RI.flat ((Same.refl _ _).wr W114 (.inl n36)) hN42 (Nat.le_refl _) (Nat.le_refl _)) RI.flat (by decide) (Nat.le_trans (Nat.le_trans (Nat.le_trans (Nat.le_trans (Below.size E5) (Below.size E10)) (Below.size E24)) (Nat.le_of_eq (Eq.symm (Wr.size W29)))) hN42) (Nat.le_trans (Nat.le_trans (Nat.le_trans (Nat.le_trans (Below.size E5) (Below.size E10)) (Below.size E24)) (Nat.le_of_eq (Eq.symm (Wr.size W29)))) (Nat.le_refl _)) (Nat.le_trans (Nat.le_trans (Nat.le_trans (Nat.le_trans (Below.size E5) (Below.size E10)) (Below.size E24)) (Nat.le_of_eq (Eq.symm (Wr.size W29)))) (Nat.le_refl _))) x121) u hu⟩, (WLM.mk (C := w31.heap.size) ((hw20.same (((((Same.refl _ _).ext E24).wr W29 (.inr (Nat.le_trans (Nat.le_refl _) hb22))).kl E45 (allS (.inr (Nat.le_trans (Nat.le_trans (Below.size E24) (Nat.le_of_eq (Eq.symm (Wr.size W29)))) hN42)) (allS (.inr (Nat.le_trans (Nat.le_refl _) hb22)) all0))).wr W114 (.inl n17))).le (Below.size (Ext.gr (Ext.refl _) E5))) hw119 (Below.size (Below.wr (Ext.gr (Ext.gr (Ext.gr (Ext.refl _) E5) E10) E24) W29 g27)) (fun c hc => Nat.lt_of_lt_of_le (hw20.1 c hc).2 (Nat.le_trans (Below.size E24) (Nat.le_of_eq (Eq.symm (Wr.size W29))))) (by first | rfl | (first | rfl | (rw [List.take_of_length_le (by omega)]))) (by first | rfl | (first | rfl | (rw [List.take_of_length_le (by omega)]))))⟩

/- impl.FlipMesh$1 -/
theorem c_impl_FlipMesh_1 (t_ : Value) (L_t_ : List Int) (w : World) (hv_t_ : Sl RI 1 w t_ L_t_) (hl : L_t_.length = 3) : Gives Try.prog 18 #[t_] w (fun v w' => ∃ y_1 : Value, ∃ Lw_2 : List Nat, v = y_1 ∧ Hang w.heap.size w' (fun u => Sl RI 1 u y_1 (flipT L_t_)) ∧ WL 1 w.heap.size w' Lw_2 y_1 (flipT L_t_).length) := by
  have hlen_t_ := Sl.len hv_t_; obtain ⟨p_t_, q_t_, rfl⟩ := Sl.shape hv_t_
  refine enter [(.slice p_t_ L_t_.length q_t_), Ud, Ud, Ud, Ud, Ud, Ud, Ud, Ud, Ud, Ud, Ud, Ud] Try.func18 rfl Try.ntmps18 rfl ?_
  refine wp_seq_k fun K1 hK1 => ?_
  refine wp_region_lit ?_
  refine q_is (l' := [(.slice p_t_ L_t_.length q_t_), Ud, (.slice none 0 0), Ud, Ud, Ud, Ud, Ud, Ud, Ud, Ud, Ud, Ud]) rfl rfl (does_assign (u := (.slice none 0 0)) (ev rfl)) rfl ?_
  refine wpList_nil (hK1 _ _ ?_)
  refine wp_seq_k fun K2 hK2 => ?_
  obtain ⟨el1, hel1⟩ : ∃ e, L_t_[0]? = some e := ⟨_, List.getElem?_eq_getElem (by omega)⟩
  obtain ⟨el2, hel2⟩ : ∃ e, L_t_[2]? = some e := ⟨_, List.getElem?_eq_getElem (by omega)⟩
  obtain ⟨el3, hel3⟩ : ∃ e, L_t_[1]? = some e := ⟨_, List.getElem?_eq_getElem (by omega)⟩
  refine region_draw (
    [Fact.pure [] (fun v => v = (.slice p_t_ L_t_.length q_t_)),
    Fact.mem [3] (fun v w' => PtrR RI w' v el1) (by intro v w1 w2 hx h; exact h.ext RI.mono hx),
    Fact.pure [4] (fun v => v = (Iv el1)),
    Fact.pure [] (fun v => v = (.slice p_t_ L_t_.length q_t_)),
    Fact.mem [6] (fun v w' => PtrR RI w' v el2) (by intro v w1 w2 hx h; exact h.ext RI.mono hx),
    Fact.pure [7] (fun v => v = (Iv el2)),
    Fact.pure [] (fun v => v = (.slice p_t_ L_t_.length q_t_)),
    Fact.mem [9] (fun v w' => PtrR RI w' v el3) (by intro v w1 w2 hx h; exact h.ext RI.mono hx),
    Fact.pure [10] (fun v => v = (Iv el3)),
    Fact.mem [5, 8, 11] (fun v w' => ∃ b : Nat, v = .slice (some ⟨b, 0, none⟩) 3 3 ∧ w.heap.size ≤ b ∧ Blk w' b [(Iv el1), (Iv el2), (Iv el3)]) (by rintro v w1 w2 hx ⟨b, rfl, hb, hB⟩; exact ⟨b, rfl, hb, (hB.ext hx)⟩)]) mixed (by kernel_rfl) (by intro _ _ d _ _ h; cases d <;> exact h) ?_
  obtain ⟨w3, hw5⟩ : ∃ w', w' = World.drew w := ⟨_, rfl⟩; rw [← hw5]; have E4 : Ext w w3 := by rw [hw5]; exact Ext.draw _
  clear hw5
  have X6 := Ext.gr (Ext.refl w) E4
  refine RW_d (fun v7 => [(.slice p_t_ L_t_.length q_t_), Ud, (.slice none 0 0), v7, Ud, Ud, Ud, Ud, Ud, Ud, Ud, Ud, Ud]) rfl (fun _ => rfl) (fun u hu hF => ?_) (fun v7 => ?_)
  · clear hF
    refine doesG_un rfl ?_
    refine (does_move (u := (.slice p_t_ L_t_.length q_t_)) (ev rfl)).mono ?_; rintro _ _ ⟨rfl, rfl⟩
    exact ⟨rfl, Ext.refl _⟩
  refine RW_d (fun v8 => [(.slice p_t_ L_t_.length q_t_), Ud, (.slice none 0 0), v7, v8, Ud, Ud, Ud, Ud, Ud, Ud, Ud, Ud]) rfl (fun _ => rfl) (fun u hu hF => ?_) (fun v8 => ?_)
  · have h3_ : v7 = (.slice p_t_ L_t_.length q_t_) := hF.1
    clear hF
    refine doesG_un rfl ?_
    obtain rfl := h3_
    refine (does_indexSl (R := RI) (i := 0) (xs := L_t_) (e := el1) Try.underlying40 Try.sizeOf2 (ev rfl) (ev rfl) (Sl.ext (Sl.ext hv_t_ RI.mono (Ext.gr (Ext.refl w) E4)) RI.mono hu) (by omega) hel1).mono ?_; rintro v u' ⟨b, of, cs, hv, hc, hR, hu'⟩; subst hu'
    exact ⟨⟨b, of, cs, hv, hc, hR⟩, Ext.refl _⟩
  refine RW_d (fun v9 => [(.slice p_t_ L_t_.length q_t_), Ud, (.slice none 0 0), v7, v8, v9, Ud, Ud, Ud, Ud, Ud, Ud, Ud]) rfl (fun _ => rfl) (fun u hu hF => ?_) (fun v9 => ?_)
  · have h4_ : PtrR RI u v8 el1 := hF.1
    clear hF
    refine doesG_un rfl ?_
    obtain ⟨b4_, o4_, _, rfl, hc4_, rfl⟩ := h4_
    refine (does_load (u := (Iv el1)) (ev rfl) Try.isAgg2 (Cells.at hc4_ 0 rfl)).mono ?_; rintro _ _ ⟨rfl, rfl⟩
    exact ⟨rfl, Ext.refl _⟩
  refine RW_d (fun v10 => [(.slice p_t_ L_t_.length q_t_), Ud, (.slice none 0 0), v7, v8, v9, v10, Ud, Ud, Ud, Ud, Ud, Ud]) rfl (fun _ => rfl) (fun u hu hF => ?_) (fun v10 => ?_)
  · clear hF
    refine doesG_un rfl ?_
    refine (does_move (u := (.slice p_t_ L_t_.length q_t_)) (ev rfl)).mono ?_; rintro _ _ ⟨rfl, rfl⟩
    exact ⟨rfl, Ext.refl _⟩
  refine RW_d (fun v11 => [(.slice p_t_ L_t_.length q_t_), Ud, (.slice none 0 0), v7, v8, v9, v10, v11, Ud, Ud, Ud, Ud, Ud]) rfl (fun _ => rfl) (fun u hu hF => ?_) (fun v11 => ?_)
  · have h6_ : v10 = (.slice p_t_ L_t_.length q_t_) := hF.1
    clear hF
    refine doesG_un rfl ?_
    obtain rfl := h6_
    refine (does_indexSl (R := RI) (i := 2) (xs := L_t_) (e := el2) Try.underlying40 Try.sizeOf2 (ev rfl) (ev rfl) (Sl.ext (Sl.ext hv_t_ RI.mono (Ext.gr (Ext.refl w) E4)) RI.mono hu) (by omega) hel2).mono ?_; rintro v u' ⟨b, of, cs, hv, hc, hR, hu'⟩; subst hu'
    exact ⟨⟨b, of, cs, hv, hc, hR⟩, Ext.refl _⟩
  refine RW_d (fun v12 => [(.slice p_t_ L_t_.length q_t_), Ud, (.slice none 0 0), v7, v8, v9, v10, v11, v12, Ud, Ud, Ud, Ud]) rfl (fun _ => rfl) (fun u hu hF => ?_) (fun v12 => ?_)
  · have h7_ : PtrR RI u v11 el2 := hF.1
    clear hF
    refine doesG_un rfl ?_
    obtain ⟨b7_, o7_, _, rfl, hc7_, rfl⟩ := h7_
    refine (does_load (u := (Iv el2)) (ev rfl) Try.isAgg2 (Cells.at hc7_ 0 rfl)).mono ?_; rintro _ _ ⟨rfl, rfl⟩
    exact ⟨rfl, Ext.refl _⟩
  refine RW_d (fun v13 => [(.slice p_t_ L_t_.length q_t_), Ud, (.slice none 0 0), v7, v8, v9, v10, v11, v12, v13, Ud, Ud, Ud]) rfl (fun _ => rfl) (fun u hu hF => ?_) (fun v13 => ?_)
  · clear hF
    refine doesG_un rfl ?_
    refine (does_move (u := (.slice p_t_ L_t_.length q_t_)) (ev rfl)).mono ?_; rintro _ _ ⟨rfl, rfl⟩
    exact ⟨rfl, Ext.refl _⟩
  refine RW_d (fun v14 => [(.slice p_t_ L_t_.length q_t_), Ud, (.slice none 0 0), v7, v8, v9, v10, v11, v12, v13, v14, Ud, Ud]) rfl (fun _ => rfl) (fun u hu hF => ?_) (fun v14 => ?_)
  · have h9_ : v13 = (.slice p_t_ L_t_.length q_t_) := hF.1
    clear hF
    refine doesG_un rfl ?_
    obtain rfl := h9_
    refine (does_indexSl (R := RI) (i := 1) (xs := L_t_) (e := el3) Try.underlying40 Try.sizeOf2 (ev rfl) (ev rfl) (Sl.ext (Sl.ext hv_t_ RI.mono (Ext.gr (Ext.refl w) E4)) RI.mono hu) (by omega) hel3).mono ?_; rintro v u' ⟨b, of, cs, hv, hc, hR, hu'⟩; subst hu'
    exact ⟨⟨b, of, cs, hv, hc, hR⟩, Ext.refl _⟩
  refine RW_d (fun v15 => [(.slice p_t_ L_t_.length q_t_), Ud, (.slice none 0 0), v7, v8, v9, v10, v11, v12, v13, v14, v15, Ud]) rfl (fun _ => rfl) (fun u hu hF => ?_) (fun v15 => ?_)
  · have h10_ : PtrR RI u v14 el3 := hF.1
    clear hF
    refine doesG_un rfl ?_
    obtain ⟨b10_, o10_, _, rfl, hc10_, rfl⟩ := h10_
    refine (does_load (u := (Iv el3)) (ev rfl) Try.isAgg2 (Cells.at hc10_ 0 rfl)).mono ?_; rintro _ _ ⟨rfl, rfl⟩
    exact ⟨rfl, Ext.refl _⟩
  refine RW_d (fun v16 => [(.slice p_t_ L_t_.length q_t_), Ud, (.slice none 0 0), v7, v8, v9, v10, v11, v12, v13, v14, v15, v16]) rfl (fun _ => rfl) (fun u hu hF => ?_) (fun v16 => ?_)
  · have h5_ : v9 = (Iv el1) := hF.1
    have h8_ : v12 = (Iv el2) := hF.2.1
    have h11_ : v15 = (Iv el3) := hF.2.2.1
    clear hF
    refine doesG_un rfl ?_
    obtain rfl := h5_
    obtain rfl := h8_
    obtain rfl := h11_
    refine (does_buildSlice (e := 2) (parts' := [(0, (Iv el1)), (1, (Iv el2)), (2, (Iv el3))]) (cells := [(Iv el1), (Iv el2), (Iv el3)]) (evp rfl) (fun _ => by kernel_rfl)).mono ?_; rintro _ _ ⟨b, rfl, hb, hB, hx⟩
    exact ⟨⟨b, rfl, Nat.le_trans (Nat.le_trans (Below.size E4) (Below.size hu)) hb, hB⟩, hx⟩
  refine RW_fin ?_; intro w17 E18 hP19
  obtain ⟨⟨⟨⟨⟨⟨⟨⟨⟨⟨-, -⟩, -⟩, -⟩, -⟩, -⟩, -⟩, -⟩, -⟩, -⟩, q20⟩ := hP19
  have X21 := Ext.gr X6 E18
  have q20 : ∃ b : Nat, v16 = .slice (some ⟨b, 0, none⟩) 3 3 ∧ w.heap.size ≤ b ∧ Blk w17 b [(Iv el1), (Iv el2), (Iv el3)] := q20
  obtain ⟨b22, rfl, hb23, hB24⟩ := q20
  have g25 : w.heap.size ≤ b22 := Nat.le_trans (Below.size (Ext.refl w)) hb23
  show wpList _ _ _ _ (fr [(.slice p_t_ L_t_.length q_t_), Ud, (.slice none 0 0), v7, v8, v9, v10, v11, v12, v13, v14, v15, (.slice (some ⟨b22, 0, none⟩) 3 3)]) _
  refine q_is (l' := [(.slice p_t_ L_t_.length q_t_), Ud, (.slice (some ⟨b22, 0, none⟩) 3 3), v7, v8, v9, v10, v11, v12, v13, v14, v15, (.slice (some ⟨b22, 0, none⟩) 3 3)]) rfl rfl (does_assign (u := (.slice (some ⟨b22, 0, none⟩) 3 3)) (ev rfl)) rfl ?_
  refine wpList_nil (hK2 _ _ ?_)
  refine wp_ret ?_
  refine ret_val (v := (.slice (some ⟨b22, 0, none⟩) 3 3)) (res_T rfl (slot rfl)) X21 ?_
  have x26 : ([el1, el2, el3]) = (flipT L_t_) := by (simp only [flipT, iAt, hel1, hel2, hel3, Option.getD_some]; done)
  have x27 : ([el1, el2, el3]) = (flipT L_t_) := by (simp only [flipT, iAt, hel1, hel2, hel3, Option.getD_some]; done)
  exact ⟨(.slice (some ⟨b22, 0, none⟩) 3 3), [b22], rfl, (Hang.castL (fun u hu => Sl_lit3 (Blk.hang hB24 g25 u hu) rfl rfl rfl) x26), (WL.cast (WL.one hB24 g25 (by simp) (Nat.le_refl _)) (congrArg List.length x27))⟩

/- impl.FlipMesh -/
theorem c_impl_FlipMesh (m : List Value) (A_m : MeshT) (w : World) (hv_m : RMeshT w A_m m) : Gives Try.prog 7 #[(.agg m.toArray)] w (fun v w' => ∃ cs_1 : List Value, ∃ Lw_2 : List Nat, v = (.tuple #[(.agg cs_1.toArray), (Bo (meshOk A_m))]) ∧ Hang w.heap.size w' (fun u => RMeshT u (flipM A_m) cs_1) ∧ WLM w.heap.size w' Lw_2 (cellN cs_1 0) (cellN cs_1 1) (flipM A_m)) := by
  obtain ⟨y1, y3, rfl, h2, h4⟩ := hv_m
  have hs7 := h2; have hs7l := Sl.len h2; obtain ⟨p5, q6, rfl⟩ := Sl.shape h2
  have hs10 := h4; have hs10l := Sl.len h4; obtain ⟨p8, q9, rfl⟩ := Sl.shape h4
  refine enter [(.agg #[(.slice p5 A_m.places.length q6), (.slice p8 A_m.tris.length q9)]), Ud, Ud, Ud, Ud, Ud, Ud, Ud, Ud, Ud, Ud, Ud, Ud] Try.func7 rfl Try.ntmps7 rfl ?_
  refine wp_seq_k fun K11 hK11 => ?_
  refine wp_region_lit ?_
  refine seqd rfl rfl (does_box (u := (.agg #[(.slice p5 A_m.places.length q6), (.slice p8 A_m.tris.length q9)])) (ev rfl)) ?_; rintro _ w16 ⟨b12, rfl, hb13, hB14, E15⟩
  have g17 : w.heap.size ≤ b12 := Nat.le_trans (Below.size (Ext.refl w)) hb13
  change Blk _ _ [(.slice p5 A_m.places.length q6), (.slice p8 A_m.tris.length q9)] at hB14
  have X18 := Ext.gr (Ext.refl w) E15
  show wpList _ _ _ _ (fr [(.agg #[(.slice p5 A_m.places.length q6), (.slice p8 A_m.tris.length q9)]), (Pt b12 0), Ud, Ud, Ud, Ud, Ud, Ud, Ud, Ud, Ud, Ud, Ud]) _
  refine seqd rfl rfl (does_alloc z29) ?_; rintro _ w23 ⟨b19, rfl, hb20, hB21, E22⟩
  have n24 : b12 < b19 := Nat.lt_of_lt_of_le (Blk.lt hB14) hb20
  have g25 : w.heap.size ≤ b19 := Nat.le_trans (Below.size X18) hb20
  change Blk _ _ [(.slice none 0 0), (.slice none 0 0)] at hB21
  have X26 := Ext.gr X18 E22
  show wpList _ _ _ _ (fr [(.agg #[(.slice p5 A_m.places.length q6), (.slice p8 A_m.tris.length q9)]), (Pt b12 0), (Pt b19 0), Ud, Ud, Ud, Ud, Ud, Ud, Ud, Ud, Ud, Ud]) _
  refine q_is (l' := [(.agg #[(.slice p5 A_m.places.length q6), (.slice p8 A_m.tris.length q9)]), (Pt b12 0), (Pt b19 0), (Bo false), Ud, Ud, Ud, Ud, Ud, Ud, Ud, Ud, Ud]) rfl rfl (does_assign (u := (Bo false)) (ev rfl)) rfl ?_
  refine wpList_nil (hK11 _ _ ?_)
  refine wp_seq_k fun K27 hK27 => ?_
  refine wp_seq_k fun K28 hK28 => ?_
  refine wp_region_lit ?_
  refine q_is (l' := [(.agg #[(.slice p5 A_m.places.length q6), (.slice p8 A_m.tris.length q9)]), (Pt b12 0), (Pt b19 0), (Bo false), (.agg #[(.slice p5 A_m.places.length q6), (.slice p8 A_m.tris.length q9)]), Ud, Ud, Ud, Ud, Ud, Ud, Ud, Ud]) rfl rfl (does_loadAgg (cs := [(.slice p5 A_m.places.length q6), (.slice p8 A_m.tris.length q9)]) (ev rfl) Try.isAgg29 Try.sizeOf29 (Blk.cells (hB14.ext E22)) rfl) rfl ?_
  refine seqd rfl rfl (does_call (args := #[(.agg #[(.slice p5 A_m.places.length q6), (.slice p8 A_m.tris.length q9)])]) cal16 (evs rfl) (c_impl_ValidMesh [(.slice p5 A_m.places.length q6), (.slice p8 A_m.tris.length q9)] A_m _ ⟨(.slice p5 A_m.places.length q6), (.slice p8 A_m.tris.length q9), rfl, (Sl.ext hs7 RV3.mono X26), (Sl.ext hs10 (RS.mono RI.mono) X26)⟩)) ?_; rintro _ w30 ⟨E29, rfl⟩
  have X31 := Ext.gr X26 E29
  show wpList _ _ _ _ (fr [(.agg #[(.slice p5 A_m.places.length q6), (.slice p8 A_m.tris.length q9)]), (Pt b12 0), (Pt b19 0), (Bo false), (.agg #[(.slice p5 A_m.places.length q6), (.slice p8 A_m.tris.length q9)]), (Bo (meshOk A_m)), Ud, Ud, Ud, Ud, Ud, Ud, Ud]) _
  refine q_is (l' := [(.agg #[(.slice p5 A_m.places.length q6), (.slice p8 A_m.tris.length q9)]), (Pt b12 0), (Pt b19 0), (Bo false), (.agg #[(.slice p5 A_m.places.length q6), (.slice p8 A_m.tris.length q9)]), (Bo (meshOk A_m)), (Bo (!(meshOk A_m))), Ud, Ud, Ud, Ud, Ud, Ud]) rfl rfl (does_not (ev rfl)) rfl ?_
  refine wpList_nil (hK28 _ _ ?_)
  refine wp_cond_split (t := !(meshOk A_m)) (ev rfl) (fun c32 => ?_) (fun c32 => ?_)
  · rw [Bool.not_eq_true'] at c32
    have c32' := c32
    have hmf : meshOk A_m = false := c32
    refine wp_seq_k fun K33 hK33 => ?_
    refine wp_region_lit ?_
    refine q_is (l' := [(.agg #[(.slice p5 A_m.places.length q6), (.slice p8 A_m.tris.length q9)]), (Pt b12 0), (Pt b19 0), (Bo false), (.agg #[(.slice p5 A_m.places.length q6), (.slice p8 A_m.tris.length q9)]), (Bo (meshOk A_m)), (Bo (!(meshOk A_m))), (.agg #[(.slice none 0 0), (.slice none 0 0)]), Ud, Ud, Ud, Ud, Ud]) rfl rfl (does_build (parts' := []) (cells := #[(.slice none 0 0), (.slice none 0 0)]) (evp rfl) (by kernel_rfl)) rfl ?_
    refine seqn rfl rfl (does_store (n := 2) (cs := [(.slice none 0 0), (.slice none 0 0)]) (u := (.agg #[(.slice none 0 0), (.slice none 0 0)])) (ev rfl) (ev rfl) Try.sizeOf29 rfl (hB21.ext E29) (Nat.le_of_ble_eq_true rfl) rfl) ?_; rintro _ w36 ⟨rfl, W34, hB35⟩
    change Blk _ _ [(.slice none 0 0), (.slice none 0 0)] at hB35
    have X37 := Below.wr X31 W34 g25
    refine q_is (l' := [(.agg #[(.slice p5 A_m.places.length q6), (.slice p8 A_m.tris.length q9)]), (Pt b12 0), (Pt b19 0), (Bo false), (.agg #[(.slice p5 A_m.places.length q6), (.slice p8 A_m.tris.length q9)]), (Bo (meshOk A_m)), (Bo (!(meshOk A_m))), (.agg #[(.slice none 0 0), (.slice none 0 0)]), Ud, Ud, Ud, Ud, Ud]) rfl rfl (does_assign (u := (Bo false)) (ev rfl)) rfl ?_
    refine wpList_nil (hK33 _ _ ?_)
    refine wp_ret ?_
    dsimp only [Exit.then, Exit.inBlock]
    refine ret_val (v := (.tuple #[(.agg #[(.slice none 0 0), (.slice none 0 0)]), (Bo false)])) (res_CT rfl (slot rfl) (run_loadAgg (cs := [(.slice none 0 0), (.slice none 0 0)]) Try.isAgg29 Try.sizeOf29 (Blk.cells hB35) rfl) (slot rfl)) X37 ?_
    have x38 : (meshOk A_m) = false := by first | exact hmf | exact hmt | (rw [flipM_f hmf] <;> rfl) | (rw [flipM_t hmt] <;> first | rfl | (dsimp only; rw [List.take_of_length_le (by omega)]))
    have x39 : ([]) = ((flipM A_m).places) := by first | exact hmf | exact hmt | (rw [flipM_f hmf] <;> rfl) | (rw [flipM_t hmt] <;> first | rfl | (dsimp only; rw [List.take_of_length_le (by omega)]))
    have x40 : ([]) = ((flipM A_m).tris) := by first | exact hmf | exact hmt | (rw [flipM_f hmf] <;> rfl) | (rw [flipM_t hmt] <;> first | rfl | (dsimp only; rw [List.take_of_length_le (by omega)]))
    exact ⟨[(.slice none 0 0), (.slice none 0 0)], ([] ++ []), (by first | with_reducible rfl | rw [x38] | rfl), fun u hu => ⟨(.slice none 0 0), (.slice none 0 0), rfl, (Hang.castL (Sl.hang_nil _ _ _ _) x39) u hu, (Hang.castL (Sl.hang_nil _ _ _ _) x40) u hu⟩, (WLM.mk (C := w.heap.size) (WL.nil _ _ _) (WLL.nil _ _ _) (Nat.le_refl _) (fun _ hc => nomatch hc) (by first | rfl | (first | exact hmf | exact hmt | (rw [flipM_f hmf] <;> rfl) | (rw [flipM_t hmt] <;> first | rfl | (dsimp only; rw [List.take_of_length_le (by omega)])))) (by first | rfl | (first | exact hmf | exact hmt | (rw [flipM_f hmf] <;> rfl) | (rw [flipM_t hmt] <;> first | rfl | (dsimp only; rw [List.take_of_length_le (by omega)])))))⟩
  rw [Bool.not_eq_false'] at c32
  have c32' := c32
  have hmt : meshOk A_m = true := c32
  have hml := mesh_len hmt
  refine wp_skip (hK27 _ _ ?_)
  refine wp_seq_k fun K41 hK41 => ?_
  refine wp_region_lit ?_
  refine q_is (l' := [(.agg #[(.slice p5 A_m.places.length q6), (.slice p8 A_m.tris.length q9)]), (Pt b12 0), (Pt b19 0), (Bo false), (.agg #[(.slice p5 A_m.places.length q6), (.slice p8 A_m.tris.length q9)]), (Bo (meshOk A_m)), (Bo (!(meshOk A_m))), Ud, (Pt b12 0), Ud, Ud, Ud, Ud]) rfl rfl (does_fieldAddr (ev rfl) fa29_0) rfl ?_
  refine q_is (l' := [(.agg #[(.slice p5 A_m.places.length q6), (.slice p8 A_m.tris.length q9)]), (Pt b12 0), (Pt b19 0), (Bo false), (.agg #[(.slice p5 A_m.places.length q6), (.slice p8 A_m.tris.length q9)]), (Bo (meshOk A_m)), (Bo (!(meshOk A_m))), Ud, (Pt b12 0), (.slice p5 A_m.places.length q6), Ud, Ud, Ud]) rfl rfl (does_load (u := (.slice p5 A_m.places.length q6)) (ev rfl) Try.isAgg27 (Cells.at (Blk.cells ((hB14.ext E22).ext E29)) 0 rfl)) rfl ?_
  refine q_is (l' := [(.agg #[(.slice p5 A_m.places.length q6), (.slice p8 A_m.tris.length q9)]), (Pt b12 0), (Pt b19 0), (Bo false), (.agg #[(.slice p5 A_m.places.length q6), (.slice p8 A_m.tris.length q9)]), (Bo (meshOk A_m)), (Bo (!(meshOk A_m))), Ud, (Pt b12 0), (.slice p5 A_m.places.length q6), (Pt b12 1), Ud, Ud]) rfl rfl (does_fieldAddr (ev rfl) fa29_1) rfl ?_
  refine q_is (l' := [(.agg #[(.slice p5 A_m.places.length q6), (.slice p8 A_m.tris.length q9)]), (Pt b12 0), (Pt b19 0), (Bo false), (.agg #[(.slice p5 A_m.places.length q6), (.slice p8 A_m.tris.length q9)]), (Bo (meshOk A_m)), (Bo (!(meshOk A_m))), Ud, (Pt b12 0), (.slice p5 A_m.places.length q6), (Pt b12 1), (.slice p8 A_m.tris.length q9), Ud]) rfl rfl (does_load (u := (.slice p8 A_m.tris.length q9)) (ev rfl) Try.isAgg23 (Cells.at (Blk.cells ((hB14.ext E22).ext E29)) 1 rfl)) rfl ?_
  refine seqd rfl rfl (does_call (args := #[(.slice p5 A_m.places.length q6), (.slice p8 A_m.tris.length q9), (.func (.func 18) #[] #[])]) cal17 (evs rfl) (c_impl_renamed (.slice p5 A_m.places.length q6) A_m.places (.slice p8 A_m.tris.length q9) A_m.tris (.func (.func 18) #[] #[]) (fun X => X.length = 3) (fun X => (flipT X)) _ (Sl.ext hs7 RV3.mono X31) (Sl.ext hs10 (RS.mono RI.mono) X31) ⟨18, #[], #[], rfl, cal18, fun y X u hD hu' hs => by simpa using (c_impl_FlipMesh_1 y X u hs hD)⟩ (by omega) (by exact fun t ht => (mesh_tri hmt (List.getElem?_of_mem ht).choose_spec).1) (by omega))) ?_; rintro _ w43 ⟨E42, ⟨cs45, Lw46, rfl, hh44, hw47⟩⟩
  have X48 := Ext.gr X31 E42
  have n49 : b12 < w30.heap.size := Blk.lt ((hB14.ext E22).ext E29)
  have n50 : b19 < w30.heap.size := Blk.lt (hB21.ext E29)
  obtain ⟨y51, y53, rfl, h52, h54⟩ := hh44.get
  have h52l := Sl.len h52; obtain ⟨p55, q56, rfl⟩ := Sl.shape h52
  have hh57 : Hang w30.heap.size w43 (fun u => Sl RV3 3 u (.slice p55 (((MeshT.mk A_m.places (A_m.tris.map (fun X => (flipT X)))).places).length) q56) ((MeshT.mk A_m.places (A_m.tris.map (fun X => (flipT X)))).places)) := fun u hu => by obtain ⟨_, _, hq, _, _⟩ := hh44 u hu; cases hq; assumption
  have h54l := Sl.len h54; obtain ⟨p58, q59, rfl⟩ := Sl.shape h54
  have hh60 : Hang w30.heap.size w43 (fun u => Sl (RS RI 1) 1 u (.slice p58 (((MeshT.mk A_m.places (A_m.tris.map (fun X => (flipT X)))).tris).length) q59) ((MeshT.mk A_m.places (A_m.tris.map (fun X => (flipT X)))).tris)) := fun u hu => by obtain ⟨_, _, hq, _, _⟩ := hh44 u hu; cases hq; assumption
  have hw61 : WLM w30.heap.size w43 Lw46 (.slice p55 (((MeshT.mk A_m.places (A_m.tris.map (fun X => (flipT X)))).places).length) q56) (.slice p58 (((MeshT.mk A_m.places (A_m.tris.map (fun X => (flipT X)))).tris).length) q59) (MeshT.mk A_m.places (A_m.tris.map (fun X => (flipT X)))) := hw47
  show wpList _ _ _ _ (fr [(.agg #[(.slice p5 A_m.places.length q6), (.slice p8 A_m.tris.length q9)]), (Pt b12 0), (Pt b19 0), (Bo false), (.agg #[(.slice p5 A_m.places.length q6), (.slice p8 A_m.tris.length q9)]), (Bo (meshOk A_m)), (Bo (!(meshOk A_m))), Ud, (Pt b12 0), (.slice p5 A_m.places.length q6), (Pt b12 1), (.slice p8 A_m.tris.length q9), (.agg #[(.slice p55 (((MeshT.mk A_m.places (A_m.tris.map (fun X => (flipT X)))).places).length) q56), (.slice p58 (((MeshT.mk A_m.places (A_m.tris.map (fun X => (flipT X)))).tris).length) q59)])]) _
  refine seqn rfl rfl (does_store (n := 2) (cs := [(.slice none 0 0), (.slice none 0 0)]) (u := (.agg #[(.slice p55 (((MeshT.mk A_m.places (A_m.tris.map (fun X => (flipT X)))).places).length) q56), (.slice p58 (((MeshT.mk A_m.places (A_m.tris.map (fun X => (flipT X)))).tris).length) q59)])) (ev rfl) (ev rfl) Try.sizeOf29 rfl ((hB21.ext E29).ext E42) (Nat.le_of_ble_eq_true rfl) rfl) ?_; rintro _ w64 ⟨rfl, W62, hB63⟩
  change Blk _ _ [(.slice p55 (((MeshT.mk A_m.places (A_m.tris.map (fun X => (flipT X)))).places).length) q56), (.slice p58 (((MeshT.mk A_m.places (A_m.tris.map (fun X => (flipT X)))).tris).length) q59)] at hB63
  have X65 := Below.wr X48 W62 g25
  refine q_is (l' := [(.agg #[(.slice p5 A_m.places.length q6), (.slice p8 A_m.tris.length q9)]), (Pt b12 0), (Pt b19 0), (Bo true), (.agg #[(.slice p5 A_m.places.length q6), (.slice p8 A_m.tris.length q9)]), (Bo (meshOk A_m)), (Bo (!(meshOk A_m))), Ud, (Pt b12 0), (.slice p5 A_m.places.length q6), (Pt b12 1), (.slice p8 A_m.tris.length q9), (.agg #[(.slice p55 (((MeshT.mk A_m.places (A_m.tris.map (fun X => (flipT X)))).places).length) q56), (.slice p58 (((MeshT.mk A_m.places (A_m.tris.map (fun X => (flipT X)))).tris).length) q59)])]) rfl rfl (does_assign (u := (Bo true)) (ev rfl)) rfl ?_
  refine wpList_nil (hK41 _ _ ?_)
  refine wp_ret ?_
  refine ret_val (v := (.tuple #[(.agg #[(.slice p55 (((MeshT.mk A_m.places (A_m.tris.map (fun X => (flipT X)))).places).length) q56), (.slice p58 (((MeshT.mk A_m.places (A_m.tris.map (fun X => (flipT X)))).tris).length) q59)]), (Bo true)])) (res_CT rfl (slot rfl) (run_loadAgg (cs := [(.slice p55 (((MeshT.mk A_m.places (A_m.tris.map (fun X => (flipT X)))).places).length) q56), (.slice p58 (((MeshT.mk A_m.places (A_m.tris.map (fun X => (flipT X)))).tris).length) q59)]) Try.isAgg29 Try.sizeOf29 (Blk.cells hB63) rfl) (slot rfl)) X65 ?_
  have x66 : (meshOk A_m) = true := by first | exact hmf | exact hmt | (rw [flipM_f hmf] <;> rfl) | (rw [flipM_t hmt] <;> first | rfl | (dsimp only; rw [List.take_of_length_le (by omega)]))
  have x67 : ((MeshT.mk A_m.places (A_m.tris.map (fun X => (flipT X)))).places) = ((flipM A_m).places) := by first | exact hmf | exact hmt | (rw [flipM_f hmf] <;> rfl) | (rw [flipM_t hmt] <;> first | rfl | (dsimp only; rw [List.take_of_length_le (by omega)]))
  have x68 : ((MeshT.mk A_m.places (A_m.tris.map (fun X => (flipT X)))).tris) = ((flipM A_m).tris) := by first | exact hmf | exact hmt | (rw [flipM_f hmf] <;> rfl) | (rw [flipM_t hmt] <;> first | rfl | (dsimp only; rw [List.take_of_length_le (by omega)]))
  exact ⟨[(.slice p55 (((MeshT.mk A_m.places (A_m.tris.map (fun X => (flipT X)))).places).length) q56), (.slice p58 (((MeshT.mk A_m.places (A_m.tris.map (fun X => (flipT X)))).tris).length) q59)], Lw46, (by first | with_reducible rfl | rw [x66] | rfl), fun u hu => ⟨(.slice p55 (((MeshT.mk A_m.places (A_m.tris.map (fun X => (flipT X)))).places).length) q56), (.slice p58 (((MeshT.mk A_m.places (A_m.tris.map (fun X => (flipT X)))).tris).length) q59), rfl, (Hang.castL ((Hang.to hh57 ((Same.refl _ _).wr W62 (.inl n50))).le (Below.size (Ext.gr (Ext.gr (Ext.gr (Ext.refl _) E15) E22) E29))) x67) u hu, (Hang.castL ((Hang.to hh60 ((Same.refl _ _).wr W62 (.inl n50))).le (Below.size (Ext.gr (Ext.gr (Ext.gr (Ext.refl _) E15) E22) E29))) x68) u hu⟩, ((show (MeshT.mk A_m.places (A_m.tris.map (fun X => (flipT X)))) = (flipM A_m) from (by first | rfl | (first | exact hmf | exact hmt | (rw [flipM_f hmf] <;> rfl) | (rw [flipM_t hmt] <;> first | rfl | (dsimp only; rw [List.take_of_length_le (by omega)]))))) ▸ WLM.le (hw61.same ((Same.refl _ _).wr W62 (.inl n50))) (Below.size (Ext.gr (Ext.gr (Ext.gr (Ext.refl _) E15) E22) E29)))⟩

/- laws.sameFloat -/
theorem c_laws_sameFloat (x : Nat) (y : Nat) (w : World) : Gives Try.prog 41 #[(Fd x), (Fd y)] w (fun v w' => v = (Bo (sameF (cf .f64 x) (cf .f64 y)))) := by
  refine enter [(Fd x), (Fd y), Ud, Ud, Ud, Ud, Ud, Ud, Ud, Ud, Ud, Ud, Ud, Ud, Ud, Ud, Ud, Ud, Ud, Ud, Ud, Ud, Ud, Ud, Ud, Ud, Ud, Ud, Ud, Ud, Ud, Ud, Ud, Ud, Ud, Ud, Ud] Try.func41 rfl Try.ntmps41 rfl ?_
  refine wp_seq_k fun K1 hK1 => ?_
  refine wp_region_lit ?_
  refine q_is rfl rfl (does_assign (u := (Bo false)) (ev rfl)) (by dsimp only [List.set]; try rfl) ?_
  refine wpList_nil (hK1 _ _ ?_)
  refine wp_seq_k fun K2 hK2 => ?_
  refine wp_seq_k fun K3 hK3 => ?_
  obtain ⟨β1, hβ1⟩ : ∃ b : Bool, b = (fcmp .neq (ford .f64 (cf .f64 x) (cf .f64 x))) := ⟨_, rfl⟩
  obtain ⟨β2, hβ2⟩ : ∃ b : Bool, b = (fcmp .neq (ford .f64 (cf .f64 y) (cf .f64 y))) := ⟨_, rfl⟩
  refine region_text (
    [Fact.pure [] (fun v => v = (Fd x)),
    Fact.pure [] (fun v => v = (Fd x)),
    Fact.pure [5, 6] (fun v => v = (Bo β1)),
    Fact.pure [7] (fun v => v = (Bo β1)),
    Fact.pure [8] (fun v => β1 = false → v = (Fd y)),
    Fact.pure [8] (fun v => β1 = false → v = (Fd y)),
    Fact.pure [9, 10, 8] (fun v => β1 = false → v = (Bo β2)),
    Fact.pure [8, 11] (fun v => v = (Bo (β1 || β2)))]) (by simp [Fact.pure, Fact.mem]) ?_
  refine RW_d _ rfl (fun v => by dsimp only [List.set]; try rfl) (fun u hu hF => ?_) (fun v4 => ?_)
  · clear hF
    refine doesG_un rfl ?_
    refine (does_move (u := (Fd x)) (ev rfl)).mono ?_; rintro _ _ ⟨rfl, rfl⟩
    exact ⟨rfl, Ext.refl _⟩
  refine RW_d _ rfl (fun v => by dsimp only [List.set]; try rfl) (fun u hu hF => ?_) (fun v5 => ?_)
  · clear hF
    refine doesG_un rfl ?_
    refine (does_move (u := (Fd x)) (ev rfl)).mono ?_; rintro _ _ ⟨rfl, rfl⟩
    exact ⟨rfl, Ext.refl _⟩
  refine RW_d _ rfl (fun v => by dsimp only [List.set]; try rfl) (fun u hu hF => ?_) (fun v6 => ?_)
  · have h5_ : v4 = (Fd x) := hF.1
    have h6_ : v5 = (Fd x) := hF.2.1
    clear hF
    refine doesG_un rfl ?_
    obtain rfl := h5_
    obtain rfl := h6_
    refine (does_fcmp (.inr (.inl rfl)) (ev rfl) (ev rfl)).mono ?_; rintro _ _ ⟨rfl, rfl⟩
    exact ⟨(by first | rfl | (show _ = _; simp only [hβ1]; done) | (show _ = _; simp only [hβ1]; rfl)), Ext.refl _⟩
  refine RW_d _ rfl (fun v => by dsimp only [List.set]; try rfl) (fun u hu hF => ?_) (fun v7 => ?_)
  · have h7_ : v6 = (Bo β1) := hF.1
    clear hF
    refine doesG_un rfl ?_
    obtain rfl := h7_
    refine (does_move (u := (Bo β1)) (ev rfl)).mono ?_; rintro _ _ ⟨rfl, rfl⟩
    exact ⟨rfl, Ext.refl _⟩
  refine RW_d _ rfl (fun v => by dsimp only [List.set]; try rfl) (fun u hu hF => ?_) (fun v8 => ?_)
  · have h8_ : v7 = (Bo β1) := hF.1
    clear hF
    obtain rfl := h8_
    refine doesG_g (b := β1) rfl (yld rfl rfl) (fun hg1 => ?_) (fun hc => ⟨fun hg1 => absurd hg1 hc, Ext.refl _⟩)
    refine (does_move (u := (Fd y)) (ev rfl)).mono ?_; rintro _ _ ⟨rfl, rfl⟩
    exact ⟨fun _ => rfl, Ext.refl _⟩
  refine RW_d _ rfl (fun v => by dsimp only [List.set]; try rfl) (fun u hu hF => ?_) (fun v9 => ?_)
  · have h8_ : v7 = (Bo β1) := hF.1
    clear hF
    obtain rfl := h8_
    refine doesG_g (b := β1) rfl (yld rfl rfl) (fun hg1 => ?_) (fun hc => ⟨fun hg1 => absurd hg1 hc, Ext.refl _⟩)
    refine (does_move (u := (Fd y)) (ev rfl)).mono ?_; rintro _ _ ⟨rfl, rfl⟩
    exact ⟨fun _ => rfl, Ext.refl _⟩
  refine RW_d _ rfl (fun v => by dsimp only [List.set]; try rfl) (fun u hu hF => ?_) (fun v10 => ?_)
  · have h9_ : β1 = false → v8 = (Fd y) := hF.1
    have h10_ : β1 = false → v9 = (Fd y) := hF.2.1
    have h8_ : v7 = (Bo β1) := hF.2.2.1
    clear hF
    obtain rfl := h8_
    refine doesG_g (b := β1) rfl (yld rfl rfl) (fun hg1 => ?_) (fun hc => ⟨fun hg1 => absurd hg1 hc, Ext.refl _⟩)
    obtain rfl := h9_ hg1
    obtain rfl := h10_ hg1
    refine (does_fcmp (.inr (.inl rfl)) (ev rfl) (ev rfl)).mono ?_; rintro _ _ ⟨rfl, rfl⟩
    exact ⟨fun _ => (by first | rfl | (show _ = _; simp only [hβ2]; done) | (show _ = _; simp only [hβ2]; rfl)), Ext.refl _⟩
  refine RW_d _ rfl (fun v => by dsimp only [List.set]; try rfl) (fun u hu hF => ?_) (fun v11 => ?_)
  · have h8_ : v7 = (Bo β1) := hF.1
    have h11_ : β1 = false → v10 = (Bo β2) := hF.2.1
    clear hF
    refine doesG_un rfl ?_
    skip
    obtain rfl := h8_
    refine (does_pick (b := β1) (u := (Bo true)) (v := v10) (ev rfl) (ev rfl) (ev rfl)).mono ?_; rintro _ _ ⟨rfl, rfl⟩; refine ⟨?_, Ext.refl _⟩; skip
    cases hbb : β1
    all_goals first | (show _ = _; simp only [↓reduceIte, Bool.true_and, Bool.false_and, Bool.true_or, Bool.false_or, Bool.false_eq_true]; done) | (have e_ := h11_ hbb; subst e_; show _ = _; simp only [↓reduceIte, Bool.true_and, Bool.false_and, Bool.true_or, Bool.false_or, Bool.false_eq_true]; done) | rfl | (have e_ := h11_ hbb; subst e_; rfl) | (simp [hbb] at h11_ ⊢; first | done | rfl | (subst h11_; rfl) | simp_all) | (simp [hbb] at h11_ ⊢; done)
  refine RW_fin ?_; intro w12 E13 hP14
  obtain ⟨⟨⟨⟨⟨⟨⟨⟨-, -⟩, -⟩, -⟩, -⟩, -⟩, -⟩, -⟩, q15⟩ := hP14
  have X16 := Ext.gr (Ext.refl w) E13
  have q15 : v11 = (Bo (β1 || β2)) := q15
  obtain rfl := q15
  show wpList _ _ _ _ (fr [_, _, _, _, _, _, _, _, _, _, _, _, _, _, _, _, _, _, _, _, _, _, _, _, _, _, _, _, _, _, _, _, _, _, _, _, _]) _
  refine wpList_nil (hK3 _ _ ?_)
  refine wp_cond_split (t := β1 || β2) (ev rfl) (fun c17 => ?_) (fun c17 => ?_)
  · have c17' := c17
    (try simp only [hβ1, hβ2] at c17')
    (try simp only [icmp, Bool.and_eq_true, Bool.or_eq_true, Bool.and_eq_false_iff, Bool.or_eq_false_iff, Bool.not_eq_true', Bool.not_eq_false', decide_eq_true_eq, decide_eq_false_iff_not, beq_iff_eq, bne_iff_ne, beq_eq_false_iff_ne, bne_eq_false_iff_eq] at c17')
    refine wp_seq_k fun K18 hK18 => ?_
    obtain ⟨β3, hβ3⟩ : ∃ b : Bool, b = (fcmp .neq (ford .f64 (cf .f64 x) (cf .f64 x))) := ⟨_, rfl⟩
    obtain ⟨β4, hβ4⟩ : ∃ b : Bool, b = (fcmp .neq (ford .f64 (cf .f64 y) (cf .f64 y))) := ⟨_, rfl⟩
    refine region_text (
      [Fact.pure [] (fun v => v = (Fd x)),
    Fact.pure [] (fun v => v = (Fd x)),
    Fact.pure [13, 14] (fun v => v = (Bo β3)),
    Fact.pure [15] (fun v => v = (Bo β3)),
    Fact.pure [16] (fun v => β3 = true → v = (Fd y)),
    Fact.pure [16] (fun v => β3 = true → v = (Fd y)),
    Fact.pure [17, 18, 16] (fun v => β3 = true → v = (Bo β4)),
    Fact.pure [16, 19] (fun v => v = (Bo (β3 && β4)))]) (by simp [Fact.pure, Fact.mem]) ?_
    refine RW_d _ rfl (fun v => by dsimp only [List.set]; try rfl) (fun u hu hF => ?_) (fun v19 => ?_)
    · clear hF
      refine doesG_un rfl ?_
      refine (does_move (u := (Fd x)) (ev rfl)).mono ?_; rintro _ _ ⟨rfl, rfl⟩
      exact ⟨rfl, Ext.refl _⟩
    refine RW_d _ rfl (fun v => by dsimp only [List.set]; try rfl) (fun u hu hF => ?_) (fun v20 => ?_)
    · clear hF
      refine doesG_un rfl ?_
      refine (does_move (u := (Fd x)) (ev rfl)).mono ?_; rintro _ _ ⟨rfl, rfl⟩
      exact ⟨rfl, Ext.refl _⟩
    refine RW_d _ rfl (fun v => by dsimp only [List.set]; try rfl) (fun u hu hF => ?_) (fun v21 => ?_)
    · have h13_ : v19 = (Fd x) := hF.1
      have h14_ : v20 = (Fd x) := hF.2.1
      clear hF
      refine doesG_un rfl ?_
      obtain rfl := h13_
      obtain rfl := h14_
      refine (does_fcmp (.inr (.inl rfl)) (ev rfl) (ev rfl)).mono ?_; rintro _ _ ⟨rfl, rfl⟩
      exact ⟨(by first | rfl | (show _ = _; simp only [hβ3]; done) | (show _ = _; simp only [hβ3]; rfl)), Ext.refl _⟩
    refine RW_d _ rfl (fun v => by dsimp only [List.set]; try rfl) (fun u hu hF => ?_) (fun v22 => ?_)
    · have h15_ : v21 = (Bo β3) := hF.1
      clear hF
      refine doesG_un rfl ?_
      obtain rfl := h15_
      refine (does_move (u := (Bo β3)) (ev rfl)).mono ?_; rintro _ _ ⟨rfl, rfl⟩
      exact ⟨rfl, Ext.refl _⟩
    refine RW_d _ rfl (fun v => by dsimp only [List.set]; try rfl) (fun u hu hF => ?_) (fun v23 => ?_)
    · have h16_ : v22 = (Bo β3) := hF.1
      clear hF
      obtain rfl := h16_
      refine doesG_g (b := β3) rfl (yld rfl rfl) (fun hg1 => ?_) (fun hc => ⟨fun hg1 => absurd hg1 hc, Ext.refl _⟩)
      refine (does_move (u := (Fd y)) (ev rfl)).mono ?_; rintro _ _ ⟨rfl, rfl⟩
      exact ⟨fun _ => rfl, Ext.refl _⟩
    refine RW_d _ rfl (fun v => by dsimp only [List.set]; try rfl) (fun u hu hF => ?_) (fun v24 => ?_)
    · have h16_ : v22 = (Bo β3) := hF.1
      clear hF
      obtain rfl := h16_
      refine doesG_g (b := β3) rfl (yld rfl rfl) (fun hg1 => ?_) (fun hc => ⟨fun hg1 => absurd hg1 hc, Ext.refl _⟩)
      refine (does_move (u := (Fd y)) (ev rfl)).mono ?_; rintro _ _ ⟨rfl, rfl⟩
      exact ⟨fun _ => rfl, Ext.refl _⟩
    refine RW_d _ rfl (fun v => by dsimp only [List.set]; try rfl) (fun u hu hF => ?_) (fun v25 => ?_)
    · have h17_ : β3 = true → v23 = (Fd y) := hF.1
      have h18_ : β3 = true → v24 = (Fd y) := hF.2.1
      have h16_ : v22 = (Bo β3) := hF.2.2.1
      clear hF
      obtain rfl := h16_
      refine doesG_g (b := β3) rfl (yld rfl rfl) (fun hg1 => ?_) (fun hc => ⟨fun hg1 => absurd hg1 hc, Ext.refl _⟩)
      obtain rfl := h17_ hg1
      obtain rfl := h18_ hg1
      refine (does_fcmp (.inr (.inl rfl)) (ev rfl) (ev rfl)).mono ?_; rintro _ _ ⟨rfl, rfl⟩
      exact ⟨fun _ => (by first | rfl | (show _ = _; simp only [hβ4]; done) | (show _ = _; simp only [hβ4]; rfl)), Ext.refl _⟩
    refine RW_d _ rfl (fun v => by dsimp only [List.set]; try rfl) (fun u hu hF => ?_) (fun v26 => ?_)
    · have h16_ : v22 = (Bo β3) := hF.1
      have h19_ : β3 = true → v25 = (Bo β4) := hF.2.1
      clear hF
      refine doesG_un rfl ?_
      skip
      obtain rfl := h16_
      refine (does_pick (b := β3) (u := v25) (v := (Bo false)) (ev rfl) (ev rfl) (ev rfl)).mono ?_; rintro _ _ ⟨rfl, rfl⟩; refine ⟨?_, Ext.refl _⟩; skip
      cases hbb : β3
      all_goals first | (show _ = _; simp only [↓reduceIte, Bool.true_and, Bool.false_and, Bool.true_or, Bool.false_or, Bool.false_eq_true]; done) | (have e_ := h19_ hbb; subst e_; show _ = _; simp only [↓reduceIte, Bool.true_and, Bool.false_and, Bool.true_or, Bool.false_or, Bool.false_eq_true]; done) | rfl | (have e_ := h19_ hbb; subst e_; rfl) | (simp [hbb] at h19_ ⊢; first | done | rfl | (subst h19_; rfl) | simp_all) | (simp [hbb] at h19_ ⊢; done)
    refine RW_fin ?_; intro w27 E28 hP29
    obtain ⟨⟨⟨⟨⟨⟨⟨⟨-, -⟩, -⟩, -⟩, -⟩, -⟩, -⟩, -⟩, q30⟩ := hP29
    have X31 := Ext.gr X16 E28
    have q30 : v26 = (Bo (β3 && β4)) := q30
    obtain rfl := q30
    show wpList _ _ _ _ (fr [_, _, _, _, _, _, _, _, _, _, _, _, _, _, _, _, _, _, _, _, _, _, _, _, _, _, _, _, _, _, _, _, _, _, _, _, _]) _
    refine q_is rfl rfl (does_assign (u := (Bo (β3 && β4))) (ev rfl)) (by dsimp only [List.set]; try rfl) ?_
    refine wpList_nil (hK18 _ _ ?_)
    refine wp_ret ?_
    dsimp only [Exit.then, Exit.inBlock]
    refine ret_val (v := (Bo (β3 && β4))) (res_T rfl (slot rfl)) X31 ?_
    try simp only [hβ1, hβ2, hβ3, hβ4] at c17
    have x32 : (sameF (cf .f64 x) (cf .f64 y)) = (β3 && β4) := by first | with_reducible rfl | (simp only [sameF, hβ1, hβ2, hβ3, hβ4, c17]; done) | (simp [sameF, hβ1, hβ2, hβ3, hβ4, c17]; done) | (revert c17; simp +contextual [sameF, hβ1, hβ2, hβ3, hβ4]; done) | (rcases c17' with hh | hh <;> simp only [hh, sameF, hβ1, hβ2, hβ3, hβ4, c17]; done) | (rcases c17' with hh | hh <;> simp_all [sameF]; done) | (rcases c17' with hh | hh | hh <;> simp_all [sameF]; done) | (rcases c17' with hh | hh | hh | hh <;> simp_all [sameF]; done) | (simp_all [sameF]; done) | rfl
    exact (by first | with_reducible rfl | rw [x32] | rfl)
  have c17' := c17
  (try simp only [hβ1, hβ2] at c17')
  (try simp only [icmp, Bool.and_eq_true, Bool.or_eq_true, Bool.and_eq_false_iff, Bool.or_eq_false_iff, Bool.not_eq_true', Bool.not_eq_false', decide_eq_true_eq, decide_eq_false_iff_not, beq_iff_eq, bne_iff_ne, beq_eq_false_iff_ne, bne_eq_false_iff_eq] at c17')
  refine wp_skip (hK2 _ _ ?_)
  refine wp_seq_k fun K33 hK33 => ?_
  refine wp_seq_k fun K34 hK34 => ?_
  obtain ⟨β5, hβ5⟩ : ∃ b : Bool, b = (fcmp .eql (ford .f64 (cf .f64 x) (cf .f64 0))) := ⟨_, rfl⟩
  obtain ⟨β6, hβ6⟩ : ∃ b : Bool, b = (fcmp .eql (ford .f64 (cf .f64 y) (cf .f64 0))) := ⟨_, rfl⟩
  refine region_text (
    [Fact.pure [] (fun v => v = (Fd x)),
    Fact.pure [21] (fun v => v = (Bo β5)),
    Fact.pure [22] (fun v => v = (Bo β5)),
    Fact.pure [23] (fun v => β5 = true → v = (Fd y)),
    Fact.pure [24, 23] (fun v => β5 = true → v = (Bo β6)),
    Fact.pure [23, 25] (fun v => v = (Bo (β5 && β6)))]) (by simp [Fact.pure, Fact.mem]) ?_
  refine RW_d _ rfl (fun v => by dsimp only [List.set]; try rfl) (fun u hu hF => ?_) (fun v35 => ?_)
  · clear hF
    refine doesG_un rfl ?_
    refine (does_move (u := (Fd x)) (ev rfl)).mono ?_; rintro _ _ ⟨rfl, rfl⟩
    exact ⟨rfl, Ext.refl _⟩
  refine RW_d _ rfl (fun v => by dsimp only [List.set]; try rfl) (fun u hu hF => ?_) (fun v36 => ?_)
  · have h21_ : v35 = (Fd x) := hF.1
    clear hF
    refine doesG_un rfl ?_
    obtain rfl := h21_
    refine (does_fcmp (.inl rfl) (ev rfl) (ev rfl)).mono ?_; rintro _ _ ⟨rfl, rfl⟩
    exact ⟨(by first | rfl | (show _ = _; simp only [hβ5]; done) | (show _ = _; simp only [hβ5]; rfl)), Ext.refl _⟩
  refine RW_d _ rfl (fun v => by dsimp only [List.set]; try rfl) (fun u hu hF => ?_) (fun v37 => ?_)
  · have h22_ : v36 = (Bo β5) := hF.1
    clear hF
    refine doesG_un rfl ?_
    obtain rfl := h22_
    refine (does_move (u := (Bo β5)) (ev rfl)).mono ?_; rintro _ _ ⟨rfl, rfl⟩
    exact ⟨rfl, Ext.refl _⟩
  refine RW_d _ rfl (fun v => by dsimp only [List.set]; try rfl) (fun u hu hF => ?_) (fun v38 => ?_)
  · have h23_ : v37 = (Bo β5) := hF.1
    clear hF
    obtain rfl := h23_
    refine doesG_g (b := β5) rfl (yld rfl rfl) (fun hg1 => ?_) (fun hc => ⟨fun hg1 => absurd hg1 hc, Ext.refl _⟩)
    refine (does_move (u := (Fd y)) (ev rfl)).mono ?_; rintro _ _ ⟨rfl, rfl⟩
    exact ⟨fun _ => rfl, Ext.refl _⟩
  refine RW_d _ rfl (fun v => by dsimp only [List.set]; try rfl) (fun u hu hF => ?_) (fun v39 => ?_)
  · have h24_ : β5 = true → v38 = (Fd y) := hF.1
    have h23_ : v37 = (Bo β5) := hF.2.1
    clear hF
    obtain rfl := h23_
    refine doesG_g (b := β5) rfl (yld rfl rfl) (fun hg1 => ?_) (fun hc => ⟨fun hg1 => absurd hg1 hc, Ext.refl _⟩)
    obtain rfl := h24_ hg1
    refine (does_fcmp (.inl rfl) (ev rfl) (ev rfl)).mono ?_; rintro _ _ ⟨rfl, rfl⟩
    exact ⟨fun _ => (by first | rfl | (show _ = _; simp only [hβ6]; done) | (show _ = _; simp only [hβ6]; rfl)), Ext.refl _⟩
  refine RW_d _ rfl (fun v => by dsimp only [List.set]; try rfl) (fun u hu hF => ?_) (fun v40 => ?_)
  · have h23_ : v37 = (Bo β5) := hF.1
    have h25_ : β5 = true → v39 = (Bo β6) := hF.2.1
    clear hF
    refine doesG_un rfl ?_
    skip
    obtain rfl := h23_
    refine (does_pick (b := β5) (u := v39) (v := (Bo false)) (ev rfl) (ev rfl) (ev rfl)).mono ?_; rintro _ _ ⟨rfl, rfl⟩; refine ⟨?_, Ext.refl _⟩; skip
    cases hbb : β5
    all_goals first | (show _ = _; simp only [↓reduceIte, Bool.true_and, Bool.false_and, Bool.true_or, Bool.false_or, Bool.false_eq_true]; done) | (have e_ := h25_ hbb; subst e_; show _ = _; simp only [↓reduceIte, Bool.true_and, Bool.false_and, Bool.true_or, Bool.false_or, Bool.false_eq_true]; done) | rfl | (have e_ := h25_ hbb; subst e_; rfl) | (simp [hbb] at h25_ ⊢; first | done | rfl | (subst h25_; rfl) | simp_all) | (simp [hbb] at h25_ ⊢; done)
  refine RW_fin ?_; intro w41 E42 hP43
  obtain ⟨⟨⟨⟨⟨⟨-, -⟩, -⟩, -⟩, -⟩, -⟩, q44⟩ := hP43
  have X45 := Ext.gr X16 E42
  have q44 : v40 = (Bo (β5 && β6)) := q44
  obtain rfl := q44
  show wpList _ _ _ _ (fr [_, _, _, _, _, _, _, _, _, _, _, _, _, _, _, _, _, _, _, _, _, _, _, _, _, _, _, _, _, _, _, _, _, _, _, _, _]) _
  refine wpList_nil (hK34 _ _ ?_)
  refine wp_cond_split (t := β5 && β6) (ev rfl) (fun c46 => ?_) (fun c46 => ?_)
  · have c46' := c46
    (try simp only [hβ1, hβ2, hβ5, hβ6] at c46')
    (try simp only [icmp, Bool.and_eq_true, Bool.or_eq_true, Bool.and_eq_false_iff, Bool.or_eq_false_iff, Bool.not_eq_true', Bool.not_eq_false', decide_eq_true_eq, decide_eq_false_iff_not, beq_iff_eq, bne_iff_ne, beq_eq_false_iff_ne, bne_eq_false_iff_eq] at c46')
    refine wp_seq_k fun K47 hK47 => ?_
    refine wp_region_lit ?_
    refine q_is rfl rfl (does_move (u := (Fd x)) (ev rfl)) (by dsimp only [List.set]; try rfl) ?_
    refine seqd rfl rfl (does_float (.inr (.inr (.inr rfl))) (ev rfl) (ev rfl)) ?_; rintro _ w51 ⟨r48, rfl, h49, E50⟩
    have X52 := Ext.gr X45 E50
    show wpList _ _ _ _ (fr [_, _, _, _, _, _, _, _, _, _, _, _, _, _, _, _, _, _, _, _, _, _, _, _, _, _, _, _, _, _, _, _, _, _, _, _, _]) _
    refine q_is rfl rfl (does_fcmp (.inr (.inr (.inr (.inr (.inl rfl))))) (ev rfl) (ev rfl)) (by dsimp only [List.set]; try rfl) ?_
    refine q_is rfl rfl (does_move (u := (Fd y)) (ev rfl)) (by dsimp only [List.set]; try rfl) ?_
    refine seqd rfl rfl (does_float (.inr (.inr (.inr rfl))) (ev rfl) (ev rfl)) ?_; rintro _ w56 ⟨r53, rfl, h54, E55⟩
    have X57 := Ext.gr X52 E55
    show wpList _ _ _ _ (fr [_, _, _, _, _, _, _, _, _, _, _, _, _, _, _, _, _, _, _, _, _, _, _, _, _, _, _, _, _, _, _, _, _, _, _, _, _]) _
    refine q_is rfl rfl (does_fcmp (.inr (.inr (.inr (.inr (.inl rfl))))) (ev rfl) (ev rfl)) (by dsimp only [List.set]; try rfl) ?_
    refine q_is rfl rfl (does_beq (p := (fcmp .gtr (ford .f64 (cf .f64 r48) (cf .f64 0)))) (q := (fcmp .gtr (ford .f64 (cf .f64 r53) (cf .f64 0)))) Try.underlying4 (ev rfl) (ev rfl)) (by dsimp only [List.set]; try rfl) ?_
    refine q_is rfl rfl (does_assign (u := (Bo ((fcmp .gtr (ford .f64 (cf .f64 r48) (cf .f64 0))) == (fcmp .gtr (ford .f64 (cf .f64 r53) (cf .f64 0)))))) (ev rfl)) (by dsimp only [List.set]; try rfl) ?_
    refine wpList_nil (hK47 _ _ ?_)
    refine wp_ret ?_
    dsimp only [Exit.then, Exit.inBlock]
    refine ret_val (v := (Bo ((fcmp .gtr (ford .f64 (cf .f64 r48) (cf .f64 0))) == (fcmp .gtr (ford .f64 (cf .f64 r53) (cf .f64 0)))))) (res_T rfl (slot rfl)) X57 ?_
    try simp only [hβ1, hβ2, hβ5, hβ6, h49, h54] at c17 c46
    have x58 : (sameF (cf .f64 x) (cf .f64 y)) = ((fcmp .gtr (ford .f64 (cf .f64 r48) (cf .f64 0))) == (fcmp .gtr (ford .f64 (cf .f64 r53) (cf .f64 0)))) := by first | with_reducible rfl | (simp only [sameF, hβ1, hβ2, hβ5, hβ6, h49, h54, c17, c46]; done) | (simp [sameF, hβ1, hβ2, hβ5, hβ6, h49, h54, c17, c46]; done) | (revert c17 c46; simp +contextual [sameF, hβ1, hβ2, hβ5, hβ6, h49, h54]; done) | (rcases c17' with hh | hh <;> simp only [hh, sameF, hβ1, hβ2, hβ5, hβ6, h49, h54, c17, c46]; done) | (rcases c46' with hh | hh <;> simp only [hh, sameF, hβ1, hβ2, hβ5, hβ6, h49, h54, c17, c46]; done) | (rcases c46' with hh | hh <;> simp_all [sameF]; done) | (rcases c46' with hh | hh | hh <;> simp_all [sameF]; done) | (rcases c46' with hh | hh | hh | hh <;> simp_all [sameF]; done) | (simp_all [sameF]; done) | rfl
    exact (by first | with_reducible rfl | rw [x58] | rfl)
  have c46' := c46
  (try simp only [hβ1, hβ2, hβ5, hβ6] at c46')
  (try simp only [icmp, Bool.and_eq_true, Bool.or_eq_true, Bool.and_eq_false_iff, Bool.or_eq_false_iff, Bool.not_eq_true', Bool.not_eq_false', decide_eq_true_eq, decide_eq_false_iff_not, beq_iff_eq, bne_iff_ne, beq_eq_false_iff_ne, bne_eq_false_iff_eq] at c46')
  refine wp_skip (hK33 _ _ ?_)
  refine wp_seq_k fun K59 hK59 => ?_
  refine wp_region_lit ?_
  refine q_is rfl rfl (does_move (u := (Fd x)) (ev rfl)) (by dsimp only [List.set]; try rfl) ?_
  refine q_is rfl rfl (does_move (u := (Fd y)) (ev rfl)) (by dsimp only [List.set]; try rfl) ?_
  refine q_is rfl rfl (does_fcmp (.inl rfl) (ev rfl) (ev rfl)) (by dsimp only [List.set]; try rfl) ?_
  refine q_is rfl rfl (does_assign (u := (Bo (fcmp .eql (ford .f64 (cf .f64 x) (cf .f64 y))))) (ev rfl)) (by dsimp only [List.set]; try rfl) ?_
  refine wpList_nil (hK59 _ _ ?_)
  refine wp_ret ?_
  refine ret_val (v := (Bo (fcmp .eql (ford .f64 (cf .f64 x) (cf .f64 y))))) (res_T rfl (slot rfl)) X45 ?_
  try simp only [hβ1, hβ2, hβ5, hβ6] at c17 c46
  have x60 : (sameF (cf .f64 x) (cf .f64 y)) = (fcmp .eql (ford .f64 (cf .f64 x) (cf .f64 y))) := by first | with_reducible rfl | (simp only [sameF, hβ1, hβ2, hβ5, hβ6, c17, c46]; done) | (simp [sameF, hβ1, hβ2, hβ5, hβ6, c17, c46]; done) | (revert c17 c46; simp +contextual [sameF, hβ1, hβ2, hβ5, hβ6]; done) | (rcases c17' with hh | hh <;> simp only [hh, sameF, hβ1, hβ2, hβ5, hβ6, c17, c46]; done) | (rcases c46' with hh | hh <;> simp only [hh, sameF, hβ1, hβ2, hβ5, hβ6, c17, c46]; done) | (rcases c46' with hh | hh <;> simp_all [sameF]; done) | (rcases c46' with hh | hh | hh <;> simp_all [sameF]; done) | (rcases c46' with hh | hh | hh | hh <;> simp_all [sameF]; done) | (simp_all [sameF]; done) | rfl
  exact (by first | with_reducible rfl | rw [x60] | rfl)

/- laws.eqVector -/
theorem c_laws_eqVector (a : List Value) (A_a : V3) (b : List Value) (A_b : V3) (w : World) (hv_a : RV3 w A_a a) (hv_b : RV3 w A_b b) : Gives Try.prog 33 #[(.agg a.toArray), (.agg b.toArray)] w (fun v w' => v = (Bo (sameV A_a A_b))) := by
  obtain ⟨r1, r3, r5, rfl, h2, h4, h6⟩ := hv_a
  obtain ⟨r7, r9, r11, rfl, h8, h10, h12⟩ := hv_b
  refine enter [(.agg #[(Fl r1), (Fl r3), (Fl r5)]), (.agg #[(Fl r7), (Fl r9), (Fl r11)]), Ud, Ud, Ud, Ud, Ud, Ud, Ud, Ud, Ud, Ud, Ud, Ud, Ud, Ud, Ud, Ud, Ud, Ud, Ud, Ud, Ud, Ud, Ud, Ud, Ud, Ud, Ud] Try.func33 rfl Try.ntmps33 rfl ?_
  refine wp_seq_k fun K13 hK13 => ?_
  refine wp_region_lit ?_
  refine seqd rfl rfl (does_box (u := (.agg #[(Fl r1), (Fl r3), (Fl r5)])) (ev rfl)) ?_; rintro _ w18 ⟨b14, rfl, hb15, hB16, E17⟩
  have g19 : w.heap.size ≤ b14 := Nat.le_trans (Below.size (Ext.refl w)) hb15
  change Blk _ _ [(Fl r1), (Fl r3), (Fl r5)] at hB16
  have X20 := Ext.gr (Ext.refl w) E17
  show wpList _ _ _ _ (fr [_, _, _, _, _, _, _, _, _, _, _, _, _, _, _, _, _, _, _, _, _, _, _, _, _, _, _, _, _]) _
  refine seqd rfl rfl (does_box (u := (.agg #[(Fl r7), (Fl r9), (Fl r11)])) (ev rfl)) ?_; rintro _ w25 ⟨b21, rfl, hb22, hB23, E24⟩
  have n26 : b14 < b21 := Nat.lt_of_lt_of_le (Blk.lt hB16) hb22
  have g27 : w.heap.size ≤ b21 := Nat.le_trans (Below.size X20) hb22
  change Blk _ _ [(Fl r7), (Fl r9), (Fl r11)] at hB23
  have X28 := Ext.gr X20 E24
  show wpList _ _ _ _ (fr [_, _, _, _, _, _, _, _, _, _, _, _, _, _, _, _, _, _, _, _, _, _, _, _, _, _, _, _, _]) _
  refine q_is rfl rfl (does_assign (u := (Bo false)) (ev rfl)) (by dsimp only [List.set]; try rfl) ?_
  refine wpList_nil (hK13 _ _ ?_)
  refine wp_seq_k fun K29 hK29 => ?_
  refine wp_seq_k fun K30 hK30 => ?_
  refine wp_region_lit ?_
  refine q_is rfl rfl (does_fieldAddr (ev rfl) fa53_0) (by dsimp only [List.set]; try rfl) ?_
  refine q_is rfl rfl (does_load (u := (Fl r1)) (ev rfl) Try.isAgg51 (Cells.at (Blk.cells (hB16.ext E24)) 0 rfl)) (by dsimp only [List.set]; try rfl) ?_
  refine seqd rfl rfl (does_widen Try.underlying51 Try.underlying66 (ev rfl)) ?_; rintro _ w34 ⟨r31, rfl, h32, E33⟩
  have X35 := Ext.gr X28 E33
  show wpList _ _ _ _ (fr [_, _, _, _, _, _, _, _, _, _, _, _, _, _, _, _, _, _, _, _, _, _, _, _, _, _, _, _, _]) _
  refine q_is rfl rfl (does_fieldAddr (ev rfl) fa53_0) (by dsimp only [List.set]; try rfl) ?_
  refine q_is rfl rfl (does_load (u := (Fl r7)) (ev rfl) Try.isAgg51 (Cells.at (Blk.cells (hB23.ext E33)) 0 rfl)) (by dsimp only [List.set]; try rfl) ?_
  refine seqd rfl rfl (does_widen Try.underlying51 Try.underlying66 (ev rfl)) ?_; rintro _ w39 ⟨r36, rfl, h37, E38⟩
  have X40 := Ext.gr X35 E38
  show wpList _ _ _ _ (fr [_, _, _, _, _, _, _, _, _, _, _, _, _, _, _, _, _, _, _, _, _, _, _, _, _, _, _, _, _]) _
  refine seqd rfl rfl (does_call (args := #[(Fd r31), (Fd r36)]) cal41 (evs rfl) (c_laws_sameFloat r31 r36 _)) ?_; rintro _ w42 ⟨E41, rfl⟩
  have X43 := Ext.gr X40 E41
  show wpList _ _ _ _ (fr [_, _, _, _, _, _, _, _, _, _, _, _, _, _, _, _, _, _, _, _, _, _, _, _, _, _, _, _, _]) _
  refine q_is rfl rfl (does_not (ev rfl)) (by dsimp only [List.set]; try rfl) ?_
  refine wpList_nil (hK30 _ _ ?_)
  refine wp_cond_split (t := !(sameF (cf .f64 r31) (cf .f64 r36))) (ev rfl) (fun c44 => ?_) (fun c44 => ?_)
  · rw [Bool.not_eq_true'] at c44
    have c44' := c44
    refine wp_seq_k fun K45 hK45 => ?_
    refine wp_region_lit ?_
    refine q_is rfl rfl (does_assign (u := (Bo false)) (ev rfl)) (by dsimp only [List.set]; try rfl) ?_
    refine wpList_nil (hK45 _ _ ?_)
    refine wp_ret ?_
    dsimp only [Exit.then, Exit.inBlock]
    refine ret_val (v := (Bo false)) (res_T rfl (slot rfl)) X43 ?_
    try simp only [h2, h4, h6, h8, h10, h12, h32, h37] at c44
    have x46 : (sameV A_a A_b) = false := by first | with_reducible rfl | (simp only [sameV, h2, h4, h6, h8, h10, h12, h32, h37, c44]; done) | (simp [sameV, h2, h4, h6, h8, h10, h12, h32, h37, c44]; done) | (revert c44; simp +contextual [sameV, h2, h4, h6, h8, h10, h12, h32, h37]; done) | (rcases c44' with hh | hh <;> simp only [hh, sameV, h2, h4, h6, h8, h10, h12, h32, h37, c44]; done) | (rcases c44' with hh | hh <;> simp_all [sameV]; done) | (rcases c44' with hh | hh | hh <;> simp_all [sameV]; done) | (rcases c44' with hh | hh | hh | hh <;> simp_all [sameV]; done) | (simp_all [sameV]; done) | rfl
    exact (by first | with_reducible rfl | rw [x46] | rfl)
  rw [Bool.not_eq_false'] at c44
  have c44' := c44
  refine wp_skip (hK29 _ _ ?_)
  refine wp_seq_k fun K47 hK47 => ?_
  refine wp_seq_k fun K48 hK48 => ?_
  refine wp_region_lit ?_
  refine q_is rfl rfl (does_fieldAddr (ev rfl) fa53_1) (by dsimp only [List.set]; try rfl) ?_
  refine q_is rfl rfl (does_load (u := (Fl r3)) (ev rfl) Try.isAgg51 (Cells.at (Blk.cells ((((hB16.ext E24).ext E33).ext E38).ext E41)) 1 rfl)) (by dsimp only [List.set]; try rfl) ?_
  refine seqd rfl rfl (does_widen Try.underlying51 Try.underlying66 (ev rfl)) ?_; rintro _ w52 ⟨r49, rfl, h50, E51⟩
  have X53 := Ext.gr X43 E51
  show wpList _ _ _ _ (fr [_, _, _, _, _, _, _, _, _, _, _, _, _, _, _, _, _, _, _, _, _, _, _, _, _, _, _, _, _]) _
  refine q_is rfl rfl (does_fieldAddr (ev rfl) fa53_1) (by dsimp only [List.set]; try rfl) ?_
  refine q_is rfl rfl (does_load (u := (Fl r9)) (ev rfl) Try.isAgg51 (Cells.at (Blk.cells ((((hB23.ext E33).ext E38).ext E41).ext E51)) 1 rfl)) (by dsimp only [List.set]; try rfl) ?_
  refine seqd rfl rfl (does_widen Try.underlying51 Try.underlying66 (ev rfl)) ?_; rintro _ w57 ⟨r54, rfl, h55, E56⟩
  have X58 := Ext.gr X53 E56
  show wpList _ _ _ _ (fr [_, _, _, _, _, _, _, _, _, _, _, _, _, _, _, _, _, _, _, _, _, _, _, _, _, _, _, _, _]) _
  refine seqd rfl rfl (does_call (args := #[(Fd r49), (Fd r54)]) cal41 (evs rfl) (c_laws_sameFloat r49 r54 _)) ?_; rintro _ w60 ⟨E59, rfl⟩
  have X61 := Ext.gr X58 E59
  show wpList _ _ _ _ (fr [_, _, _, _, _, _, _, _, _, _, _, _, _, _, _, _, _, _, _, _, _, _, _, _, _, _, _, _, _]) _
  refine q_is rfl rfl (does_not (ev rfl)) (by dsimp only [List.set]; try rfl) ?_
  refine wpList_nil (hK48 _ _ ?_)
  refine wp_cond_split (t := !(sameF (cf .f64 r49) (cf .f64 r54))) (ev rfl) (fun c62 => ?_) (fun c62 => ?_)
  · rw [Bool.not_eq_true'] at c62
    have c62' := c62
    refine wp_seq_k fun K63 hK63 => ?_
    refine wp_region_lit ?_
    refine q_is rfl rfl (does_assign (u := (Bo false)) (ev rfl)) (by dsimp only [List.set]; try rfl) ?_
    refine wpList_nil (hK63 _ _ ?_)
    refine wp_ret ?_
    dsimp only [Exit.then, Exit.inBlock]
    refine ret_val (v := (Bo false)) (res_T rfl (slot rfl)) X61 ?_
    try simp only [h2, h4, h6, h8, h10, h12, h32, h37, h50, h55] at c44 c62
    have x64 : (sameV A_a A_b) = false := by first | with_reducible rfl | (simp only [sameV, h2, h4, h6, h8, h10, h12, h32, h37, h50, h55, c44, c62]; done) | (simp [sameV, h2, h4, h6, h8, h10, h12, h32, h37, h50, h55, c44, c62]; done) | (revert c44 c62; simp +contextual [sameV, h2, h4, h6, h8, h10, h12, h32, h37, h50, h55]; done) | (rcases c44' with hh | hh <;> simp only [hh, sameV, h2, h4, h6, h8, h10, h12, h32, h37, h50, h55, c44, c62]; done) | (rcases c62' with hh | hh <;> simp only [hh, sameV, h2, h4, h6, h8, h10, h12, h32, h37, h50, h55, c44, c62]; done) | (rcases c62' with hh | hh <;> simp_all [sameV]; done) | (rcases c62' with hh | hh | hh <;> simp_all [sameV]; done) | (rcases c62' with hh | hh | hh | hh <;> simp_all [sameV]; done) | (simp_all [sameV]; done) | rfl
    exact (by first | with_reducible rfl | rw [x64] | rfl)
  rw [Bool.not_eq_false'] at c62
  have c62' := c62
  refine wp_skip (hK47 _ _ ?_)
  refine wp_seq_k fun K65 hK65 => ?_
  refine wp_seq_k fun K66 hK66 => ?_
  refine wp_region_lit ?_
  refine q_is rfl rfl (does_fieldAddr (ev rfl) fa53_2) (by dsimp only [List.set]; try rfl) ?_
  refine q_is rfl rfl (does_load (u := (Fl r5)) (ev rfl) Try.isAgg51 (Cells.at (Blk.cells (((((((hB16.ext E24).ext E33).ext E38).ext E41).ext E51).ext E56).ext E59)) 2 rfl)) (by dsimp only [List.set]; try rfl) ?_
  refine seqd rfl rfl (does_widen Try.underlying51 Try.underlying66 (ev rfl)) ?_; rintro _ w70 ⟨r67, rfl, h68, E69⟩
  have X71 := Ext.gr X61 E69
  show wpList _ _ _ _ (fr [_, _, _, _, _, _, _, _, _, _, _, _, _, _, _, _, _, _, _, _, _, _, _, _, _, _, _, _, _]) _
  refine q_is rfl rfl (does_fieldAddr (ev rfl) fa53_2) (by dsimp only [List.set]; try rfl) ?_
  refine q_is rfl rfl (does_load (u := (Fl r11)) (ev rfl) Try.isAgg51 (Cells.at (Blk.cells (((((((hB23.ext E33).ext E38).ext E41).ext E51).ext E56).ext E59).ext E69)) 2 rfl)) (by dsimp only [List.set]; try rfl) ?_
  refine seqd rfl rfl (does_widen Try.underlying51 Try.underlying66 (ev rfl)) ?_; rintro _ w75 ⟨r72, rfl, h73, E74⟩
  have X76 := Ext.gr X71 E74
  show wpList _ _ _ _ (fr [_, _, _, _, _, _, _, _, _, _, _, _, _, _, _, _, _, _, _, _, _, _, _, _, _, _, _, _, _]) _
  refine seqd rfl rfl (does_call (args := #[(Fd r67), (Fd r72)]) cal41 (evs rfl) (c_laws_sameFloat r67 r72 _)) ?_; rintro _ w78 ⟨E77, rfl⟩
  have X79 := Ext.gr X76 E77
  show wpList _ _ _ _ (fr [_, _, _, _, _, _, _, _, _, _, _, _, _, _, _, _, _, _, _, _, _, _, _, _, _, _, _, _, _]) _
  refine q_is rfl rfl (does_not (ev rfl)) (by dsimp only [List.set]; try rfl) ?_
  refine wpList_nil (hK66 _ _ ?_)
  refine wp_cond_split (t := !(sameF (cf .f64 r67) (cf .f64 r72))) (ev rfl) (fun c80 => ?_) (fun c80 => ?_)
  · rw [Bool.not_eq_true'] at c80
    have c80' := c80
    refine wp_seq_k fun K81 hK81 => ?_
    refine wp_region_lit ?_
    refine q_is rfl rfl (does_assign (u := (Bo false)) (ev rfl)) (by dsimp only [List.set]; try rfl) ?_
    refine wpList_nil (hK81 _ _ ?_)
    refine wp_ret ?_
    dsimp only [Exit.then, Exit.inBlock]
    refine ret_val (v := (Bo false)) (res_T rfl (slot rfl)) X79 ?_
    try simp only [h2, h4, h6, h8, h10, h12, h32, h37, h50, h55, h68, h73] at c44 c62 c80
    have x82 : (sameV A_a A_b) = false := by first | with_reducible rfl | (simp only [sameV, h2, h4, h6, h8, h10, h12, h32, h37, h50, h55, h68, h73, c44, c62, c80]; done) | (simp [sameV, h2, h4, h6, h8, h10, h12, h32, h37, h50, h55, h68, h73, c44, c62, c80]; done) | (revert c44 c62 c80; simp +contextual [sameV, h2, h4, h6, h8, h10, h12, h32, h37, h50, h55, h68, h73]; done) | (rcases c44' with hh | hh <;> simp only [hh, sameV, h2, h4, h6, h8, h10, h12, h32, h37, h50, h55, h68, h73, c44, c62, c80]; done) | (rcases c62' with hh | hh <;> simp only [hh, sameV, h2, h4, h6, h8, h10, h12, h32, h37, h50, h55, h68, h73, c44, c62, c80]; done) | (rcases c80' with hh | hh <;> simp only [hh, sameV, h2, h4, h6, h8, h10, h12, h32, h37, h50, h55, h68, h73, c44, c62, c80]; done) | (rcases c80' with hh | hh <;> simp_all [sameV]; done) | (rcases c80' with hh | hh | hh <;> simp_all [sameV]; done) | (rcases c80' with hh | hh | hh | hh <;> simp_all [sameV]; done) | (simp_all [sameV]; done) | rfl
    exact (by first | with_reducible rfl | rw [x82] | rfl)
  rw [Bool.not_eq_false'] at c80
  have c80' := c80
  refine wp_skip (hK65 _ _ ?_)
  refine wp_seq_k fun K83 hK83 => ?_
  refine wp_region_lit ?_
  refine q_is rfl rfl (does_assign (u := (Bo true)) (ev rfl)) (by dsimp only [List.set]; try rfl) ?_
  refine wpList_nil (hK83 _ _ ?_)
  refine wp_ret ?_
  refine ret_val (v := (Bo true)) (res_T rfl (slot rfl)) X79 ?_
  try simp only [h2, h4, h6, h8, h10, h12, h32, h37, h50, h55, h68, h73] at c44 c62 c80
  have x84 : (sameV A_a A_b) = true := by first | with_reducible rfl | (simp only [sameV, h2, h4, h6, h8, h10, h12, h32, h37, h50, h55, h68, h73, c44, c62, c80]; done) | (simp [sameV, h2, h4, h6, h8, h10, h12, h32, h37, h50, h55, h68, h73, c44, c62, c80]; done) | (revert c44 c62 c80; simp +contextual [sameV, h2, h4, h6, h8, h10, h12, h32, h37, h50, h55, h68, h73]; done) | (rcases c44' with hh | hh <;> simp only [hh, sameV, h2, h4, h6, h8, h10, h12, h32, h37, h50, h55, h68, h73, c44, c62, c80]; done) | (rcases c62' with hh | hh <;> simp only [hh, sameV, h2, h4, h6, h8, h10, h12, h32, h37, h50, h55, h68, h73, c44, c62, c80]; done) | (rcases c80' with hh | hh <;> simp only [hh, sameV, h2, h4, h6, h8, h10, h12, h32, h37, h50, h55, h68, h73, c44, c62, c80]; done) | (rcases c80' with hh | hh <;> simp_all [sameV]; done) | (rcases c80' with hh | hh | hh <;> simp_all [sameV]; done) | (rcases c80' with hh | hh | hh | hh <;> simp_all [sameV]; done) | (simp_all [sameV]; done) | rfl
  exact (by first | with_reducible rfl | rw [x84] | rfl)

/- laws.eqVectorS -/
theorem c_laws_eqVectorS (a : Value) (L_a : List V3) (b : Value) (L_b : List V3) (w : World) (hv_a : Sl RV3 3 w a L_a) (hv_b : Sl RV3 3 w b L_b) : Gives Try.prog 19 #[a, b] w (fun v w' => v = (Bo (sameX sameV L_a L_b))) := by
  have hlen_a := Sl.len hv_a; obtain ⟨p_a, q_a, rfl⟩ := Sl.shape hv_a
  have hlen_b := Sl.len hv_b; obtain ⟨p_b, q_b, rfl⟩ := Sl.shape hv_b
  refine enter [(.slice p_a L_a.length q_a), (.slice p_b L_b.length q_b), Ud, Ud, Ud, Ud, Ud, Ud, Ud, Ud, Ud, Ud, Ud, Ud, Ud, Ud, Ud, Ud, Ud, Ud, Ud, Ud, Ud, Ud, Ud, Ud, Ud] Try.func19 rfl Try.ntmps19 rfl ?_
  refine wp_seq_k fun K1 hK1 => ?_
  refine wp_region_lit ?_
  refine q_is rfl rfl (does_assign (u := (Bo false)) (ev rfl)) (by dsimp only [List.set]; try rfl) ?_
  refine wpList_nil (hK1 _ _ ?_)
  refine wp_seq_k fun K2 hK2 => ?_
  refine wp_seq_k fun K3 hK3 => ?_
  refine wp_region_lit ?_
  refine q_is rfl rfl (does_move (u := (.slice p_a L_a.length q_a)) (ev rfl)) (by dsimp only [List.set]; try rfl) ?_
  refine q_is rfl rfl (does_len_slice Try.underlying27 (ev rfl)) (by dsimp only [List.set]; try rfl) ?_
  refine q_is rfl rfl (does_move (u := (.slice p_b L_b.length q_b)) (ev rfl)) (by dsimp only [List.set]; try rfl) ?_
  refine q_is rfl rfl (does_len_slice Try.underlying27 (ev rfl)) (by dsimp only [List.set]; try rfl) ?_
  refine q_is rfl rfl (does_icmp (p := (L_a.length : Int)) (q := (L_b.length : Int)) (.inr (.inl rfl)) (ev rfl) (ev rfl)) (by dsimp only [List.set]; try rfl) ?_
  refine wpList_nil (hK3 _ _ ?_)
  refine wp_cond_split (t := icmp .neq (L_a.length : Int) (L_b.length : Int)) (ev rfl) (fun c4 => ?_) (fun c4 => ?_)
  · have c4' := c4
    (try simp only [icmp, Bool.and_eq_true, Bool.or_eq_true, Bool.and_eq_false_iff, Bool.or_eq_false_iff, Bool.not_eq_true', Bool.not_eq_false', decide_eq_true_eq, decide_eq_false_iff_not, beq_iff_eq, bne_iff_ne, beq_eq_false_iff_ne, bne_eq_false_iff_eq] at c4')
    refine wp_seq_k fun K5 hK5 => ?_
    refine wp_region_lit ?_
    refine q_is rfl rfl (does_assign (u := (Bo false)) (ev rfl)) (by dsimp only [List.set]; try rfl) ?_
    refine wpList_nil (hK5 _ _ ?_)
    refine wp_ret ?_
    dsimp only [Exit.then, Exit.inBlock]
    refine ret_val (v := (Bo false)) (res_T rfl (slot rfl)) (Ext.refl w) ?_
    have x6 : (sameX sameV L_a L_b) = false := by first | exact (sameX_len (by omega)) | exact (sameX_not (by omega) (by assumption) (by assumption) (by simp_all)) | exact (sameX_all (by omega) (by omega) hs)
    exact (by first | with_reducible rfl | rw [x6] | rfl)
  have c4' := c4
  (try simp only [icmp, Bool.and_eq_true, Bool.or_eq_true, Bool.and_eq_false_iff, Bool.or_eq_false_iff, Bool.not_eq_true', Bool.not_eq_false', decide_eq_true_eq, decide_eq_false_iff_not, beq_iff_eq, bne_iff_ne, beq_eq_false_iff_ne, bne_eq_false_iff_eq] at c4')
  refine wp_skip (hK2 _ _ ?_)
  refine wp_seq_k fun K7 hK7 => ?_
  refine wp_seq_k fun K8 hK8 => ?_
  refine wp_region_lit ?_
  refine q_is rfl rfl (does_assign (u := (Iv 0)) (ev rfl)) (by dsimp only [List.set]; try rfl) ?_
  refine wpList_nil (hK8 _ _ ?_)
  refine wp_block ?_
  refine loop_ghost (σ := Nat) (fun k a w' => ∃ u9 : Nat → Value, a = fr [(.slice p_a L_a.length q_a), (.slice p_b L_b.length q_b), Ud, Ud, (u9 4), (Iv (k : Int)), (.slice p_a L_a.length q_a), (Iv (L_a.length : Int)), (.slice p_b L_b.length q_b), (Iv (L_b.length : Int)), (Bo (icmp .neq (L_a.length : Int) (L_b.length : Int))), (u9 11), (u9 12), (u9 13), (u9 14), (u9 15), (u9 16), (u9 17), (u9 18), (u9 19), (u9 20), (u9 21), (u9 22), (u9 23), (u9 24), (u9 25), (u9 26)] ∧ Ext w w' ∧ (k ≤ L_a.length ∧ SameXTo sameV L_a L_b k)) (fun k => L_a.length - k) 0 ?_ ?_
  · refine ⟨fun t => (([(.slice p_a L_a.length q_a), (.slice p_b L_b.length q_b), Ud, Ud, (Bo false), (Iv 0), (.slice p_a L_a.length q_a), (Iv (L_a.length : Int)), (.slice p_b L_b.length q_b), (Iv (L_b.length : Int)), (Bo (icmp .neq (L_a.length : Int) (L_b.length : Int))), Ud, Ud, Ud, Ud, Ud, Ud, Ud, Ud, Ud, Ud, Ud, Ud, Ud, Ud, Ud, Ud] : List Value)[t]?).getD undef, rfl, Ext.refl _, ?_⟩
    exact ⟨Nat.zero_le _, SameXTo.zero⟩
  · rintro k a w10 ⟨u9, rfl, E11, ⟨hk, hs⟩⟩
    have X13 := Ext.gr (Ext.refl w) E11
    refine wp_seq_k fun K14 hK14 => ?_
    refine wp_seq_k fun K15 hK15 => ?_
    refine wp_region_lit ?_
    refine q_is rfl rfl (does_move (u := (Iv (k : Int))) (ev rfl)) (by dsimp only [List.set]; try rfl) ?_
    refine q_is rfl rfl (does_move (u := (.slice p_a L_a.length q_a)) (ev rfl)) (by dsimp only [List.set]; try rfl) ?_
    refine q_is rfl rfl (does_len_slice Try.underlying27 (ev rfl)) (by dsimp only [List.set]; try rfl) ?_
    refine q_is rfl rfl (does_icmp (p := (k : Int)) (q := (L_a.length : Int)) (.inr (.inr (.inl rfl))) (ev rfl) (ev rfl)) (by dsimp only [List.set]; try rfl) ?_
    refine wpList_nil (hK15 _ _ ?_)
    refine wp_cond_split (t := icmp .lss (k : Int) (L_a.length : Int)) (ev rfl) (fun c16 => ?_) (fun c16 => ?_)
    · have c16' := c16
      (try simp only [icmp, Bool.and_eq_true, Bool.or_eq_true, Bool.and_eq_false_iff, Bool.or_eq_false_iff, Bool.not_eq_true', Bool.not_eq_false', decide_eq_true_eq, decide_eq_false_iff_not, beq_iff_eq, bne_iff_ne, beq_eq_false_iff_ne, bne_eq_false_iff_eq] at c16')
      refine wp_skip (hK14 _ _ ?_)
      refine wp_seq_k fun K17 hK17 => ?_
      refine wp_block ?_
      refine wp_seq_k fun K18 hK18 => ?_
      obtain ⟨el1, hel1⟩ : ∃ e, L_a[k]? = some e := ⟨_, List.getElem?_eq_getElem (by omega)⟩
      obtain ⟨el2, hel2⟩ : ∃ e, L_b[k]? = some e := ⟨_, List.getElem?_eq_getElem (by omega)⟩
      refine region_draw (
        [Fact.pure [] (fun v => v = (.slice p_a L_a.length q_a)),
    Fact.pure [] (fun v => v = (Iv (k : Int))),
    Fact.mem [17, 18] (fun v w' => PtrR RV3 w' v el1) (by intro v w1 w2 hx h; exact h.ext RV3.mono hx),
    Fact.pure [19] (fun v => ∃ cs_1 : List Value, v = (.agg cs_1.toArray) ∧ RV3 w el1 cs_1),
    Fact.pure [] (fun v => v = (.slice p_b L_b.length q_b)),
    Fact.pure [] (fun v => v = (Iv (k : Int))),
    Fact.mem [21, 22] (fun v w' => PtrR RV3 w' v el2) (by intro v w1 w2 hx h; exact h.ext RV3.mono hx),
    Fact.pure [23] (fun v => ∃ cs_1 : List Value, v = (.agg cs_1.toArray) ∧ RV3 w el2 cs_1),
    Fact.pure [20, 24] (fun v => v = (Bo (sameV el1 el2))),
    Fact.pure [25] (fun v => v = (Bo (!(sameV el1 el2))))]) mixed (by kernel_rfl) (by intro _ _ d _ _ h; cases d <;> exact h) ?_
      obtain ⟨w19, hw21⟩ : ∃ w', w' = World.drew w10 := ⟨_, rfl⟩; rw [← hw21]; have E20 : Ext w10 w19 := by rw [hw21]; exact Ext.draw _
      clear hw21
      have X22 := Ext.gr X13 E20
      refine RW_d _ rfl (fun v => by dsimp only [List.set]; try rfl) (fun u hu hF => ?_) (fun v23 => ?_)
      · clear hF
        refine doesG_un rfl ?_
        refine (does_move (u := (.slice p_a L_a.length q_a)) (ev rfl)).mono ?_; rintro _ _ ⟨rfl, rfl⟩
        exact ⟨rfl, Ext.refl _⟩
      refine RW_d _ rfl (fun v => by dsimp only [List.set]; try rfl) (fun u hu hF => ?_) (fun v24 => ?_)
      · clear hF
        refine doesG_un rfl ?_
        refine (does_move (u := (Iv (k : Int))) (ev rfl)).mono ?_; rintro _ _ ⟨rfl, rfl⟩
        exact ⟨rfl, Ext.refl _⟩
      refine RW_d _ rfl (fun v => by dsimp only [List.set]; try rfl) (fun u hu hF => ?_) (fun v25 => ?_)
      · have h17_ : v23 = (.slice p_a L_a.length q_a) := hF.1
        have h18_ : v24 = (Iv (k : Int)) := hF.2.1
        clear hF
        refine doesG_un rfl ?_
        obtain rfl := h17_
        obtain rfl := h18_
        refine (does_indexSl (R := RV3) (i := (k : Int)) (xs := L_a) (e := el1) Try.underlying27 Try.sizeOf53 (ev rfl) (ev rfl) (Sl.ext (Sl.ext hv_a RV3.mono (Ext.gr X13 E20)) RV3.mono hu) (by omega) hel1).mono ?_; rintro v u' ⟨b, of, cs, hv, hc, hR, hu'⟩; subst hu'
        exact ⟨⟨b, of, cs, hv, hc, hR⟩, Ext.refl _⟩
      refine RW_d _ rfl (fun v => by dsimp only [List.set]; try rfl) (fun u hu hF => ?_) (fun v26 => ?_)
      · have h19_ : PtrR RV3 u v25 el1 := hF.1
        clear hF
        refine doesG_un rfl ?_
        obtain ⟨b19_, o19_, _, rfl, hc19_, ⟨r19_1, r19_3, r19_5, rfl, h19_2, h19_4, h19_6⟩⟩ := h19_
        refine (does_loadAgg (cs := [(Fl r19_1), (Fl r19_3), (Fl r19_5)]) (ev rfl) Try.isAgg53 Try.sizeOf53 hc19_ rfl).mono ?_; rintro _ _ ⟨rfl, rfl⟩
        exact ⟨⟨[(Fl r19_1), (Fl r19_3), (Fl r19_5)], rfl, ⟨r19_1, r19_3, r19_5, rfl, (by first | assumption | rfl), (by first | assumption | rfl), (by first | assumption | rfl)⟩⟩, Ext.refl _⟩
      refine RW_d _ rfl (fun v => by dsimp only [List.set]; try rfl) (fun u hu hF => ?_) (fun v27 => ?_)
      · clear hF
        refine doesG_un rfl ?_
        refine (does_move (u := (.slice p_b L_b.length q_b)) (ev rfl)).mono ?_; rintro _ _ ⟨rfl, rfl⟩
        exact ⟨rfl, Ext.refl _⟩
      refine RW_d _ rfl (fun v => by dsimp only [List.set]; try rfl) (fun u hu hF => ?_) (fun v28 => ?_)
      · clear hF
        refine doesG_un rfl ?_
        refine (does_move (u := (Iv (k : Int))) (ev rfl)).mono ?_; rintro _ _ ⟨rfl, rfl⟩
        exact ⟨rfl, Ext.refl _⟩
      refine RW_d _ rfl (fun v => by dsimp only [List.set]; try rfl) (fun u hu hF => ?_) (fun v29 => ?_)
      · have h21_ : v27 = (.slice p_b L_b.length q_b) := hF.1
        have h22_ : v28 = (Iv (k : Int)) := hF.2.1
        clear hF
        refine doesG_un rfl ?_
        obtain rfl := h21_
        obtain rfl := h22_
        refine (does_indexSl (R := RV3) (i := (k : Int)) (xs := L_b) (e := el2) Try.underlying27 Try.sizeOf53 (ev rfl) (ev rfl) (Sl.ext (Sl.ext hv_b RV3.mono (Ext.gr X13 E20)) RV3.mono hu) (by omega) hel2).mono ?_; rintro v u' ⟨b, of, cs, hv, hc, hR, hu'⟩; subst hu'
        exact ⟨⟨b, of, cs, hv, hc, hR⟩, Ext.refl _⟩
      refine RW_d _ rfl (fun v => by dsimp only [List.set]; try rfl) (fun u hu hF => ?_) (fun v30 => ?_)
      · have h23_ : PtrR RV3 u v29 el2 := hF.1
        clear hF
        refine doesG_un rfl ?_
        obtain ⟨b23_, o23_, _, rfl, hc23_, ⟨r23_1, r23_3, r23_5, rfl, h23_2, h23_4, h23_6⟩⟩ := h23_
        refine (does_loadAgg (cs := [(Fl r23_1), (Fl r23_3), (Fl r23_5)]) (ev rfl) Try.isAgg53 Try.sizeOf53 hc23_ rfl).mono ?_; rintro _ _ ⟨rfl, rfl⟩
        exact ⟨⟨[(Fl r23_1), (Fl r23_3), (Fl r23_5)], rfl, ⟨r23_1, r23_3, r23_5, rfl, (by first | assumption | rfl), (by first | assumption | rfl), (by first | assumption | rfl)⟩⟩, Ext.refl _⟩
      refine RW_d _ rfl (fun v => by dsimp only [List.set]; try rfl) (fun u hu hF => ?_) (fun v31 => ?_)
      · have h20_ : ∃ cs_1 : List Value, v26 = (.agg cs_1.toArray) ∧ RV3 w el1 cs_1 := hF.1
        have h24_ : ∃ cs_1 : List Value, v30 = (.agg cs_1.toArray) ∧ RV3 w el2 cs_1 := hF.2.1
        clear hF
        refine doesG_un rfl ?_
        obtain ⟨_, rfl, ⟨r20_1, r20_3, r20_5, rfl, h20_2, h20_4, h20_6⟩⟩ := h20_
        obtain ⟨_, rfl, ⟨r24_1, r24_3, r24_5, rfl, h24_2, h24_4, h24_6⟩⟩ := h24_
        refine (does_call (args := #[(.agg #[(Fl r20_1), (Fl r20_3), (Fl r20_5)]), (.agg #[(Fl r24_1), (Fl r24_3), (Fl r24_5)])]) cal33 (evs rfl) (c_laws_eqVector [(Fl r20_1), (Fl r20_3), (Fl r20_5)] el1 [(Fl r24_1), (Fl r24_3), (Fl r24_5)] el2 _ ⟨r20_1, r20_3, r20_5, rfl, (by assumption), (by assumption), (by assumption)⟩ ⟨r24_1, r24_3, r24_5, rfl, (by assumption), (by assumption), (by assumption)⟩)).mono ?_; rintro v u' ⟨hx, hv⟩
        exact ⟨hv.trans (by simp only [h20_2, h20_4, h20_6, h24_2, h24_4, h24_6]), hx⟩
      refine RW_d _ rfl (fun v => by dsimp only [List.set]; try rfl) (fun u hu hF => ?_) (fun v32 => ?_)
      · have h25_ : v31 = (Bo (sameV el1 el2)) := hF.1
        clear hF
        refine doesG_un rfl ?_
        obtain rfl := h25_
        refine (does_not (ev rfl)).mono ?_; rintro _ _ ⟨rfl, rfl⟩
        exact ⟨rfl, Ext.refl _⟩
      refine RW_fin ?_; intro w33 E34 hP35
      obtain ⟨⟨⟨⟨⟨⟨⟨⟨⟨⟨-, -⟩, -⟩, -⟩, -⟩, -⟩, -⟩, -⟩, -⟩, -⟩, q36⟩ := hP35
      have X37 := Ext.gr X22 E34
      have q36 : v32 = (Bo (!(sameV el1 el2))) := q36
      obtain rfl := q36
      show wpList _ _ _ _ (fr [_, _, _, _, _, _, _, _, _, _, _, _, _, _, _, _, _, _, _, _, _, _, _, _, _, _, _]) _
      refine wpList_nil (hK18 _ _ ?_)
      refine wp_cond_split (t := !(sameV el1 el2)) (ev rfl) (fun c38 => ?_) (fun c38 => ?_)
      · rw [Bool.not_eq_true'] at c38
        have c38' := c38
        refine wp_seq_k fun K39 hK39 => ?_
        refine wp_region_lit ?_
        refine q_is rfl rfl (does_assign (u := (Bo false)) (ev rfl)) (by dsimp only [List.set]; try rfl) ?_
        refine wpList_nil (hK39 _ _ ?_)
        refine wp_ret ?_
        dsimp only [Exit.then, Exit.inBlock]
        refine ret_val (v := (Bo false)) (res_T rfl (slot rfl)) X37 ?_
        try simp only [hel1, hel2] at c4 c16 c38
        have x40 : (sameX sameV L_a L_b) = false := by first | exact (sameX_len (by omega)) | exact (sameX_not (by omega) (by assumption) (by assumption) (by simp_all)) | exact (sameX_all (by omega) (by omega) hs)
        exact (by first | with_reducible rfl | rw [x40] | rfl)
      rw [Bool.not_eq_false'] at c38
      have c38' := c38
      refine wp_skip (hK17 _ _ ?_)
      refine wp_region_lit ?_
      refine q_is rfl rfl (does_move (u := (Iv (k : Int))) (ev rfl)) (by dsimp only [List.set]; try rfl) ?_
      refine q_is rfl rfl (does_iarith (p := (k : Int)) (q := 1) (r := (k : Int) + 1) (ev rfl) (ev rfl) (.inl ⟨rfl, (in_i64 (by omega) (by omega)).symm⟩)) (by dsimp only [List.set]; try rfl) ?_
      refine q_is rfl rfl (does_assign (u := (Iv ((k : Int) + 1))) (ev rfl)) (by dsimp only [List.set]; try rfl) ?_
      refine wpList_nil ?_
      refine ⟨k + 1, ⟨fun t => (([(.slice p_a L_a.length q_a), (.slice p_b L_b.length q_b), Ud, Ud, (u9 4), (Iv ((k : Int) + 1)), (.slice p_a L_a.length q_a), (Iv (L_a.length : Int)), (.slice p_b L_b.length q_b), (Iv (L_b.length : Int)), (Bo (icmp .neq (L_a.length : Int) (L_b.length : Int))), (Iv (k : Int)), (.slice p_a L_a.length q_a), (Iv (L_a.length : Int)), (Bo (icmp .lss (k : Int) (L_a.length : Int))), (Iv (k : Int)), (Iv ((k : Int) + 1)), v23, v24, v25, v26, v27, v28, v29, v30, v31, (Bo (!(sameV el1 el2)))] : List Value)[t]?).getD undef, ?_, (Ext.gr (Ext.gr E11 E20) E34), ?_⟩, ?_⟩
      · first | rfl | (simp only [Int.natCast_add, Int.natCast_one]; rfl)
      · exact ⟨by omega, SameXTo.step hs (by assumption) (by assumption) (by simp_all)⟩
      · omega
    have c16' := c16
    (try simp only [icmp, Bool.and_eq_true, Bool.or_eq_true, Bool.and_eq_false_iff, Bool.or_eq_false_iff, Bool.not_eq_true', Bool.not_eq_false', decide_eq_true_eq, decide_eq_false_iff_not, beq_iff_eq, bne_iff_ne, beq_eq_false_iff_ne, bne_eq_false_iff_eq] at c16')
    refine wp_exit ?_
    refine hK7 _ _ ?_
    refine wp_seq_k fun K41 hK41 => ?_
    refine wp_region_lit ?_
    refine q_is rfl rfl (does_assign (u := (Bo true)) (ev rfl)) (by dsimp only [List.set]; try rfl) ?_
    refine wpList_nil (hK41 _ _ ?_)
    refine wp_ret ?_
    refine ret_val (v := (Bo true)) (res_T rfl (slot rfl)) X13 ?_
    have x42 : (sameX sameV L_a L_b) = true := by first | exact (sameX_len (by omega)) | exact (sameX_not (by omega) (by assumption) (by assumption) (by simp_all)) | exact (sameX_all (by omega) (by omega) hs)
    exact (by first | with_reducible rfl | rw [x42] | rfl)

/- laws.eqInt64S -/
theorem c_laws_eqInt64S (a : Value) (L_a : List Int) (b : Value) (L_b : List Int) (w : World) (hv_a : Sl RI 1 w a L_a) (hv_b : Sl RI 1 w b L_b) : Gives Try.prog 34 #[a, b] w (fun v w' => v = (Bo (sameX eqI L_a L_b))) := by
  have hlen_a := Sl.len hv_a; obtain ⟨p_a, q_a, rfl⟩ := Sl.shape hv_a
  have hlen_b := Sl.len hv_b; obtain ⟨p_b, q_b, rfl⟩ := Sl.shape hv_b
  refine enter [(.slice p_a L_a.length q_a), (.slice p_b L_b.length q_b), Ud, Ud, Ud, Ud, Ud, Ud, Ud, Ud, Ud, Ud, Ud, Ud, Ud, Ud, Ud, Ud, Ud, Ud, Ud, Ud, Ud, Ud, Ud, Ud] Try.func34 rfl Try.ntmps34 rfl ?_
  refine wp_seq_k fun K1 hK1 => ?_
  refine wp_region_lit ?_
  refine q_is rfl rfl (does_assign (u := (Bo false)) (ev rfl)) (by dsimp only [List.set]; try rfl) ?_
  refine wpList_nil (hK1 _ _ ?_)
  refine wp_seq_k fun K2 hK2 => ?_
  refine wp_seq_k fun K3 hK3 => ?_
  refine wp_region_lit ?_
  refine q_is rfl rfl (does_move (u := (.slice p_a L_a.length q_a)) (ev rfl)) (by dsimp only [List.set]; try rfl) ?_
  refine q_is rfl rfl (does_len_slice Try.underlying40 (ev rfl)) (by dsimp only [List.set]; try rfl) ?_
  refine q_is rfl rfl (does_move (u := (.slice p_b L_b.length q_b)) (ev rfl)) (by dsimp only [List.set]; try rfl) ?_
  refine q_is rfl rfl (does_len_slice Try.underlying40 (ev rfl)) (by dsimp only [List.set]; try rfl) ?_
  refine q_is rfl rfl (does_icmp (p := (L_a.length : Int)) (q := (L_b.length : Int)) (.inr (.inl rfl)) (ev rfl) (ev rfl)) (by dsimp only [List.set]; try rfl) ?_
  refine wpList_nil (hK3 _ _ ?_)
  refine wp_cond_split (t := icmp .neq (L_a.length : Int) (L_b.length : Int)) (ev rfl) (fun c4 => ?_) (fun c4 => ?_)
  · have c4' := c4
    (try simp only [icmp, Bool.and_eq_true, Bool.or_eq_true, Bool.and_eq_false_iff, Bool.or_eq_false_iff, Bool.not_eq_true', Bool.not_eq_false', decide_eq_true_eq, decide_eq_false_iff_not, beq_iff_eq, bne_iff_ne, beq_eq_false_iff_ne, bne_eq_false_iff_eq] at c4')
    refine wp_seq_k fun K5 hK5 => ?_
    refine wp_region_lit ?_
    refine q_is rfl rfl (does_assign (u := (Bo false)) (ev rfl)) (by dsimp only [List.set]; try rfl) ?_
    refine wpList_nil (hK5 _ _ ?_)
    refine wp_ret ?_
    dsimp only [Exit.then, Exit.inBlock]
    refine ret_val (v := (Bo false)) (res_T rfl (slot rfl)) (Ext.refl w) ?_
    have x6 : (sameX eqI L_a L_b) = false := by first | exact (sameX_len (by omega)) | exact (sameX_not (by omega) (by assumption) (by assumption) (by simp only [eqI, icmp] at *; simp_all)) | exact (sameX_all (by omega) (by omega) hs)
    exact (by first | with_reducible rfl | rw [x6] | rfl)
  have c4' := c4
  (try simp only [icmp, Bool.and_eq_true, Bool.or_eq_true, Bool.and_eq_false_iff, Bool.or_eq_false_iff, Bool.not_eq_true', Bool.not_eq_false', decide_eq_true_eq, decide_eq_false_iff_not, beq_iff_eq, bne_iff_ne, beq_eq_false_iff_ne, bne_eq_false_iff_eq] at c4')
  refine wp_skip (hK2 _ _ ?_)
  refine wp_seq_k fun K7 hK7 => ?_
  refine wp_seq_k fun K8 hK8 => ?_
  refine wp_region_lit ?_
  refine q_is rfl rfl (does_assign (u := (Iv 0)) (ev rfl)) (by dsimp only [List.set]; try rfl) ?_
  refine wpList_nil (hK8 _ _ ?_)
  refine wp_block ?_
  refine loop_ghost (σ := Nat) (fun k a w' => ∃ u9 : Nat → Value, a = fr [(.slice p_a L_a.length q_a), (.slice p_b L_b.length q_b), Ud, Ud, (u9 4), (Iv (k : Int)), (.slice p_a L_a.length q_a), (Iv (L_a.length : Int)), (.slice p_b L_b.length q_b), (Iv (L_b.length : Int)), (Bo (icmp .neq (L_a.length : Int) (L_b.length : Int))), (u9 11), (u9 12), (u9 13), (u9 14), (u9 15), (u9 16), (u9 17), (u9 18), (u9 19), (u9 20), (u9 21), (u9 22), (u9 23), (u9 24), (u9 25)] ∧ Ext w w' ∧ (k ≤ L_a.length ∧ SameXTo eqI L_a L_b k)) (fun k => L_a.length - k) 0 ?_ ?_
  · refine ⟨fun t => (([(.slice p_a L_a.length q_a), (.slice p_b L_b.length q_b), Ud, Ud, (Bo false), (Iv 0), (.slice p_a L_a.length q_a), (Iv (L_a.length : Int)), (.slice p_b L_b.length q_b), (Iv (L_b.length : Int)), (Bo (icmp .neq (L_a.length : Int) (L_b.length : Int))), Ud, Ud, Ud, Ud, Ud, Ud, Ud, Ud, Ud, Ud, Ud, Ud, Ud, Ud, Ud] : List Value)[t]?).getD undef, rfl, Ext.refl _, ?_⟩
    exact ⟨Nat.zero_le _, SameXTo.zero⟩
  · rintro k a w10 ⟨u9, rfl, E11, ⟨hk, hs⟩⟩
    have X13 := Ext.gr (Ext.refl w) E11
    refine wp_seq_k fun K14 hK14 => ?_
    refine wp_seq_k fun K15 hK15 => ?_
    refine wp_region_lit ?_
    refine q_is rfl rfl (does_move (u := (Iv (k : Int))) (ev rfl)) (by dsimp only [List.set]; try rfl) ?_
    refine q_is rfl rfl (does_move (u := (.slice p_a L_a.length q_a)) (ev rfl)) (by dsimp only [List.set]; try rfl) ?_
    refine q_is rfl rfl (does_len_slice Try.underlying40 (ev rfl)) (by dsimp only [List.set]; try rfl) ?_
    refine q_is rfl rfl (does_icmp (p := (k : Int)) (q := (L_a.length : Int)) (.inr (.inr (.inl rfl))) (ev rfl) (ev rfl)) (by dsimp only [List.set]; try rfl) ?_
    refine wpList_nil (hK15 _ _ ?_)
    refine wp_cond_split (t := icmp .lss (k : Int) (L_a.length : Int)) (ev rfl) (fun c16 => ?_) (fun c16 => ?_)
    · have c16' := c16
      (try simp only [icmp, Bool.and_eq_true, Bool.or_eq_true, Bool.and_eq_false_iff, Bool.or_eq_false_iff, Bool.not_eq_true', Bool.not_eq_false', decide_eq_true_eq, decide_eq_false_iff_not, beq_iff_eq, bne_iff_ne, beq_eq_false_iff_ne, bne_eq_false_iff_eq] at c16')
      refine wp_skip (hK14 _ _ ?_)
      refine wp_seq_k fun K17 hK17 => ?_
      refine wp_block ?_
      refine wp_seq_k fun K18 hK18 => ?_
      obtain ⟨el1, hel1⟩ : ∃ e, L_a[k]? = some e := ⟨_, List.getElem?_eq_getElem (by omega)⟩
      obtain ⟨el2, hel2⟩ : ∃ e, L_b[k]? = some e := ⟨_, List.getElem?_eq_getElem (by omega)⟩
      refine region_draw (
        [Fact.pure [] (fun v => v = (.slice p_a L_a.length q_a)),
    Fact.pure [] (fun v => v = (Iv (k : Int))),
    Fact.mem [17, 18] (fun v w' => PtrR RI w' v el1) (by intro v w1 w2 hx h; exact h.ext RI.mono hx),
    Fact.pure [19] (fun v => v = (Iv el1)),
    Fact.pure [] (fun v => v = (.slice p_b L_b.length q_b)),
    Fact.pure [] (fun v => v = (Iv (k : Int))),
    Fact.mem [21, 22] (fun v w' => PtrR RI w' v el2) (by intro v w1 w2 hx h; exact h.ext RI.mono hx),
    Fact.pure [23] (fun v => v = (Iv el2)),
    Fact.pure [20, 24] (fun v => v = (Bo (icmp .neq el1 el2)))]) mixed (by kernel_rfl) (by intro _ _ d _ _ h; cases d <;> exact h) ?_
      obtain ⟨w19, hw21⟩ : ∃ w', w' = World.drew w10 := ⟨_, rfl⟩; rw [← hw21]; have E20 : Ext w10 w19 := by rw [hw21]; exact Ext.draw _
      clear hw21
      have X22 := Ext.gr X13 E20
      refine RW_d _ rfl (fun v => by dsimp only [List.set]; try rfl) (fun u hu hF => ?_) (fun v23 => ?_)
      · clear hF
        refine doesG_un rfl ?_
        refine (does_move (u := (.slice p_a L_a.length q_a)) (ev rfl)).mono ?_; rintro _ _ ⟨rfl, rfl⟩
        exact ⟨rfl, Ext.refl _⟩
      refine RW_d _ rfl (fun v => by dsimp only [List.set]; try rfl) (fun u hu hF => ?_) (fun v24 => ?_)
      · clear hF
        refine doesG_un rfl ?_
        refine (does_move (u := (Iv (k : Int))) (ev rfl)).mono ?_; rintro _ _ ⟨rfl, rfl⟩
        exact ⟨rfl, Ext.refl _⟩
      refine RW_d _ rfl (fun v => by dsimp only [List.set]; try rfl) (fun u hu hF => ?_) (fun v25 => ?_)
      · have h17_ : v23 = (.slice p_a L_a.length q_a) := hF.1
        have h18_ : v24 = (Iv (k : Int)) := hF.2.1
        clear hF
        refine doesG_un rfl ?_
        obtain rfl := h17_
        obtain rfl := h18_
        refine (does_indexSl (R := RI) (i := (k : Int)) (xs := L_a) (e := el1) Try.underlying40 Try.sizeOf2 (ev rfl) (ev rfl) (Sl.ext (Sl.ext hv_a RI.mono (Ext.gr X13 E20)) RI.mono hu) (by omega) hel1).mono ?_; rintro v u' ⟨b, of, cs, hv, hc, hR, hu'⟩; subst hu'
        exact ⟨⟨b, of, cs, hv, hc, hR⟩, Ext.refl _⟩
      refine RW_d _ rfl (fun v => by dsimp only [List.set]; try rfl) (fun u hu hF => ?_) (fun v26 => ?_)
      · have h19_ : PtrR RI u v25 el1 := hF.1
        clear hF
        refine doesG_un rfl ?_
        obtain ⟨b19_, o19_, _, rfl, hc19_, rfl⟩ := h19_
        refine (does_load (u := (Iv el1)) (ev rfl) Try.isAgg2 (Cells.at hc19_ 0 rfl)).mono ?_; rintro _ _ ⟨rfl, rfl⟩
        exact ⟨rfl, Ext.refl _⟩
      refine RW_d _ rfl (fun v => by dsimp only [List.set]; try rfl) (fun u hu hF => ?_) (fun v27 => ?_)
      · clear hF
        refine doesG_un rfl ?_
        refine (does_move (u := (.slice p_b L_b.length q_b)) (ev rfl)).mono ?_; rintro _ _ ⟨rfl, rfl⟩
        exact ⟨rfl, Ext.refl _⟩
      refine RW_d _ rfl (fun v => by dsimp only [List.set]; try rfl) (fun u hu hF => ?_) (fun v28 => ?_)
      · clear hF
        refine doesG_un rfl ?_
        refine (does_move (u := (Iv (k : Int))) (ev rfl)).mono ?_; rintro _ _ ⟨rfl, rfl⟩
        exact ⟨rfl, Ext.refl _⟩
      refine RW_d _ rfl (fun v => by dsimp only [List.set]; try rfl) (fun u hu hF => ?_) (fun v29 => ?_)
      · have h21_ : v27 = (.slice p_b L_b.length q_b) := hF.1
        have h22_ : v28 = (Iv (k : Int)) := hF.2.1
        clear hF
        refine doesG_un rfl ?_
        obtain rfl := h21_
        obtain rfl := h22_
        refine (does_indexSl (R := RI) (i := (k : Int)) (xs := L_b) (e := el2) Try.underlying40 Try.sizeOf2 (ev rfl) (ev rfl) (Sl.ext (Sl.ext hv_b RI.mono (Ext.gr X13 E20)) RI.mono hu) (by omega) hel2).mono ?_; rintro v u' ⟨b, of, cs, hv, hc, hR, hu'⟩; subst hu'
        exact ⟨⟨b, of, cs, hv, hc, hR⟩, Ext.refl _⟩
      refine RW_d _ rfl (fun v => by dsimp only [List.set]; try rfl) (fun u hu hF => ?_) (fun v30 => ?_)
      · have h23_ : PtrR RI u v29 el2 := hF.1
        clear hF
        refine doesG_un rfl ?_
        obtain ⟨b23_, o23_, _, rfl, hc23_, rfl⟩ := h23_
        refine (does_load (u := (Iv el2)) (ev rfl) Try.isAgg2 (Cells.at hc23_ 0 rfl)).mono ?_; rintro _ _ ⟨rfl, rfl⟩
        exact ⟨rfl, Ext.refl _⟩
      refine RW_d _ rfl (fun v => by dsimp only [List.set]; try rfl) (fun u hu hF => ?_) (fun v31 => ?_)
      · have h20_ : v26 = (Iv el1) := hF.1
        have h24_ : v30 = (Iv el2) := hF.2.1
        clear hF
        refine doesG_un rfl ?_
        obtain rfl := h20_
        obtain rfl := h24_
        refine (does_icmp (p := el1) (q := el2) (.inr (.inl rfl)) (ev rfl) (ev rfl)).mono ?_; rintro _ _ ⟨rfl, rfl⟩
        exact ⟨rfl, Ext.refl _⟩
      refine RW_fin ?_; intro w32 E33 hP34
      obtain ⟨⟨⟨⟨⟨⟨⟨⟨⟨-, -⟩, -⟩, -⟩, -⟩, -⟩, -⟩, -⟩, -⟩, q35⟩ := hP34
      have X36 := Ext.gr X22 E33
      have q35 : v31 = (Bo (icmp .neq el1 el2)) := q35
      obtain rfl := q35
      show wpList _ _ _ _ (fr [_, _, _, _, _, _, _, _, _, _, _, _, _, _, _, _, _, _, _, _, _, _, _, _, _, _]) _
      refine wpList_nil (hK18 _ _ ?_)
      refine wp_cond_split (t := icmp .neq el1 el2) (ev rfl) (fun c37 => ?_) (fun c37 => ?_)
      · have c37' := c37
        (try simp only [icmp, Bool.and_eq_true, Bool.or_eq_true, Bool.and_eq_false_iff, Bool.or_eq_false_iff, Bool.not_eq_true', Bool.not_eq_false', decide_eq_true_eq, decide_eq_false_iff_not, beq_iff_eq, bne_iff_ne, beq_eq_false_iff_ne, bne_eq_false_iff_eq] at c37')
        refine wp_seq_k fun K38 hK38 => ?_
        refine wp_region_lit ?_
        refine q_is rfl rfl (does_assign (u := (Bo false)) (ev rfl)) (by dsimp only [List.set]; try rfl) ?_
        refine wpList_nil (hK38 _ _ ?_)
        refine wp_ret ?_
        dsimp only [Exit.then, Exit.inBlock]
        refine ret_val (v := (Bo false)) (res_T rfl (slot rfl)) X36 ?_
        try simp only [hel1, hel2] at c4 c16 c37
        have x39 : (sameX eqI L_a L_b) = false := by first | exact (sameX_len (by omega)) | exact (sameX_not (by omega) (by assumption) (by assumption) (by simp only [eqI, icmp] at *; simp_all)) | exact (sameX_all (by omega) (by omega) hs)
        exact (by first | with_reducible rfl | rw [x39] | rfl)
      have c37' := c37
      (try simp only [icmp, Bool.and_eq_true, Bool.or_eq_true, Bool.and_eq_false_iff, Bool.or_eq_false_iff, Bool.not_eq_true', Bool.not_eq_false', decide_eq_true_eq, decide_eq_false_iff_not, beq_iff_eq, bne_iff_ne, beq_eq_false_iff_ne, bne_eq_false_iff_eq] at c37')
      refine wp_skip (hK17 _ _ ?_)
      refine wp_region_lit ?_
      refine q_is rfl rfl (does_move (u := (Iv (k : Int))) (ev rfl)) (by dsimp only [List.set]; try rfl) ?_
      refine q_is rfl rfl (does_iarith (p := (k : Int)) (q := 1) (r := (k : Int) + 1) (ev rfl) (ev rfl) (.inl ⟨rfl, (in_i64 (by omega) (by omega)).symm⟩)) (by dsimp only [List.set]; try rfl) ?_
      refine q_is rfl rfl (does_assign (u := (Iv ((k : Int) + 1))) (ev rfl)) (by dsimp only [List.set]; try rfl) ?_
      refine wpList_nil ?_
      refine ⟨k + 1, ⟨fun t => (([(.slice p_a L_a.length q_a), (.slice p_b L_b.length q_b), Ud, Ud, (u9 4), (Iv ((k : Int) + 1)), (.slice p_a L_a.length q_a), (Iv (L_a.length : Int)), (.slice p_b L_b.length q_b), (Iv (L_b.length : Int)), (Bo (icmp .neq (L_a.length : Int) (L_b.length : Int))), (Iv (k : Int)), (.slice p_a L_a.length q_a), (Iv (L_a.length : Int)), (Bo (icmp .lss (k : Int) (L_a.length : Int))), (Iv (k : Int)), (Iv ((k : Int) + 1)), v23, v24, v25, v26, v27, v28, v29, v30, (Bo (icmp .neq el1 el2))] : List Value)[t]?).getD undef, ?_, (Ext.gr (Ext.gr E11 E20) E33), ?_⟩, ?_⟩
      · first | rfl | (simp only [Int.natCast_add, Int.natCast_one]; rfl)
      · exact ⟨by omega, SameXTo.step hs (by assumption) (by assumption) (by simp only [eqI, icmp] at *; simp_all)⟩
      · omega
    have c16' := c16
    (try simp only [icmp, Bool.and_eq_true, Bool.or_eq_true, Bool.and_eq_false_iff, Bool.or_eq_false_iff, Bool.not_eq_true', Bool.not_eq_false', decide_eq_true_eq, decide_eq_false_iff_not, beq_iff_eq, bne_iff_ne, beq_eq_false_iff_ne, bne_eq_false_iff_eq] at c16')
    refine wp_exit ?_
    refine hK7 _ _ ?_
    refine wp_seq_k fun K40 hK40 => ?_
    refine wp_region_lit ?_
    refine q_is rfl rfl (does_assign (u := (Bo true)) (ev rfl)) (by dsimp only [List.set]; try rfl) ?_
    refine wpList_nil (hK40 _ _ ?_)
    refine wp_ret ?_
    refine ret_val (v := (Bo true)) (res_T rfl (slot rfl)) X13 ?_
    have x41 : (sameX eqI L_a L_b) = true := by first | exact (sameX_len (by omega)) | exact (sameX_not (by omega) (by assumption) (by assumption) (by simp only [eqI, icmp] at *; simp_all)) | exact (sameX_all (by omega) (by omega) hs)
    exact (by first | with_reducible rfl | rw [x41] | rfl)

/- laws.eqInt64SS -/
theorem c_laws_eqInt64SS (a : Value) (L_a : List (List Int)) (b : Value) (L_b : List (List Int)) (w : World) (hv_a : Sl (RS RI 1) 1 w a L_a) (hv_b : Sl (RS RI 1) 1 w b L_b) : Gives Try.prog 20 #[a, b] w (fun v w' => v = (Bo (sameX eqIs L_a L_b))) := by
  have hlen_a := Sl.len hv_a; obtain ⟨p_a, q_a, rfl⟩ := Sl.shape hv_a
  have hlen_b := Sl.len hv_b; obtain ⟨p_b, q_b, rfl⟩ := Sl.shape hv_b
  refine enter [(.slice p_a L_a.length q_a), (.slice p_b L_b.length q_b), Ud, Ud, Ud, Ud, Ud, Ud, Ud, Ud, Ud, Ud, Ud, Ud, Ud, Ud, Ud, Ud, Ud, Ud, Ud, Ud, Ud, Ud, Ud, Ud, Ud] Try.func20 rfl Try.ntmps20 rfl ?_
  refine wp_seq_k fun K1 hK1 => ?_
  refine wp_region_lit ?_
  refine q_is rfl rfl (does_assign (u := (Bo false)) (ev rfl)) (by dsimp only [List.set]; try rfl) ?_
  refine wpList_nil (hK1 _ _ ?_)
  refine wp_seq_k fun K2 hK2 => ?_
  refine wp_seq_k fun K3 hK3 => ?_
  refine wp_region_lit ?_
  refine q_is rfl rfl (does_move (u := (.slice p_a L_a.length q_a)) (ev rfl)) (by dsimp only [List.set]; try rfl) ?_
  refine q_is rfl rfl (does_len_slice Try.underlying23 (ev rfl)) (by dsimp only [List.set]; try rfl) ?_
  refine q_is rfl rfl (does_move (u := (.slice p_b L_b.length q_b)) (ev rfl)) (by dsimp only [List.set]; try rfl) ?_
  refine q_is rfl rfl (does_len_slice Try.underlying23 (ev rfl)) (by dsimp only [List.set]; try rfl) ?_
  refine q_is rfl rfl (does_icmp (p := (L_a.length : Int)) (q := (L_b.length : Int)) (.inr (.inl rfl)) (ev rfl) (ev rfl)) (by dsimp only [List.set]; try rfl) ?_
  refine wpList_nil (hK3 _ _ ?_)
  refine wp_cond_split (t := icmp .neq (L_a.length : Int) (L_b.length : Int)) (ev rfl) (fun c4 => ?_) (fun c4 => ?_)
  · have c4' := c4
    (try simp only [icmp, Bool.and_eq_true, Bool.or_eq_true, Bool.and_eq_false_iff, Bool.or_eq_false_iff, Bool.not_eq_true', Bool.not_eq_false', decide_eq_true_eq, decide_eq_false_iff_not, beq_iff_eq, bne_iff_ne, beq_eq_false_iff_ne, bne_eq_false_iff_eq] at c4')
    refine wp_seq_k fun K5 hK5 => ?_
    refine wp_region_lit ?_
    refine q_is rfl rfl (does_assign (u := (Bo false)) (ev rfl)) (by dsimp only [List.set]; try rfl) ?_
    refine wpList_nil (hK5 _ _ ?_)
    refine wp_ret ?_
    dsimp only [Exit.then, Exit.inBlock]
    refine ret_val (v := (Bo false)) (res_T rfl (slot rfl)) (Ext.refl w) ?_
    have x6 : (sameX eqIs L_a L_b) = false := by first | exact (sameX_len (by omega)) | exact (sameX_not (by omega) (by assumption) (by assumption) (by show sameX eqI _ _ = _; assumption)) | exact (sameX_all (by omega) (by omega) hs)
    exact (by first | with_reducible rfl | rw [x6] | rfl)
  have c4' := c4
  (try simp only [icmp, Bool.and_eq_true, Bool.or_eq_true, Bool.and_eq_false_iff, Bool.or_eq_false_iff, Bool.not_eq_true', Bool.not_eq_false', decide_eq_true_eq, decide_eq_false_iff_not, beq_iff_eq, bne_iff_ne, beq_eq_false_iff_ne, bne_eq_false_iff_eq] at c4')
  refine wp_skip (hK2 _ _ ?_)
  refine wp_seq_k fun K7 hK7 => ?_
  refine wp_seq_k fun K8 hK8 => ?_
  refine wp_region_lit ?_
  refine q_is rfl rfl (does_assign (u := (Iv 0)) (ev rfl)) (by dsimp only [List.set]; try rfl) ?_
  refine wpList_nil (hK8 _ _ ?_)
  refine wp_block ?_
  refine loop_ghost (σ := Nat) (fun k a w' => ∃ u9 : Nat → Value, a = fr [(.slice p_a L_a.length q_a), (.slice p_b L_b.length q_b), Ud, Ud, (u9 4), (Iv (k : Int)), (.slice p_a L_a.length q_a), (Iv (L_a.length : Int)), (.slice p_b L_b.length q_b), (Iv (L_b.length : Int)), (Bo (icmp .neq (L_a.length : Int) (L_b.length : Int))), (u9 11), (u9 12), (u9 13), (u9 14), (u9 15), (u9 16), (u9 17), (u9 18), (u9 19), (u9 20), (u9 21), (u9 22), (u9 23), (u9 24), (u9 25), (u9 26)] ∧ Ext w w' ∧ (k ≤ L_a.length ∧ SameXTo eqIs L_a L_b k)) (fun k => L_a.length - k) 0 ?_ ?_
  · refine ⟨fun t => (([(.slice p_a L_a.length q_a), (.slice p_b L_b.length q_b), Ud, Ud, (Bo false), (Iv 0), (.slice p_a L_a.length q_a), (Iv (L_a.length : Int)), (.slice p_b L_b.length q_b), (Iv (L_b.length : Int)), (Bo (icmp .neq (L_a.length : Int) (L_b.length : Int))), Ud, Ud, Ud, Ud, Ud, Ud, Ud, Ud, Ud, Ud, Ud, Ud, Ud, Ud, Ud, Ud] : List Value)[t]?).getD undef, rfl, Ext.refl _, ?_⟩
    exact ⟨Nat.zero_le _, SameXTo.zero⟩
  · rintro k a w10 ⟨u9, rfl, E11, ⟨hk, hs⟩⟩
    have X13 := Ext.gr (Ext.refl w) E11
    refine wp_seq_k fun K14 hK14 => ?_
    refine wp_seq_k fun K15 hK15 => ?_
    refine wp_region_lit ?_
    refine q_is rfl rfl (does_move (u := (Iv (k : Int))) (ev rfl)) (by dsimp only [List.set]; try rfl) ?_
    refine q_is rfl rfl (does_move (u := (.slice p_a L_a.length q_a)) (ev rfl)) (by dsimp only [List.set]; try rfl) ?_
    refine q_is rfl rfl (does_len_slice Try.underlying23 (ev rfl)) (by dsimp only [List.set]; try rfl) ?_
    refine q_is rfl rfl (does_icmp (p := (k : Int)) (q := (L_a.length : Int)) (.inr (.inr (.inl rfl))) (ev rfl) (ev rfl)) (by dsimp only [List.set]; try rfl) ?_
    refine wpList_nil (hK15 _ _ ?_)
    refine wp_cond_split (t := icmp .lss (k : Int) (L_a.length : Int)) (ev rfl) (fun c16 => ?_) (fun c16 => ?_)
    · have c16' := c16
      (try simp only [icmp, Bool.and_eq_true, Bool.or_eq_true, Bool.and_eq_false_iff, Bool.or_eq_false_iff, Bool.not_eq_true', Bool.not_eq_false', decide_eq_true_eq, decide_eq_false_iff_not, beq_iff_eq, bne_iff_ne, beq_eq_false_iff_ne, bne_eq_false_iff_eq] at c16')
      refine wp_skip (hK14 _ _ ?_)
      refine wp_seq_k fun K17 hK17 => ?_
      refine wp_block ?_
      refine wp_seq_k fun K18 hK18 => ?_
      obtain ⟨el1, hel1⟩ : ∃ e, L_a[k]? = some e := ⟨_, List.getElem?_eq_getElem (by omega)⟩
      obtain ⟨el2, hel2⟩ : ∃ e, L_b[k]? = some e := ⟨_, List.getElem?_eq_getElem (by omega)⟩
      refine region_draw (
        [Fact.pure [] (fun v => v = (.slice p_a L_a.length q_a)),
    Fact.pure [] (fun v => v = (Iv (k : Int))),
    Fact.mem [17, 18] (fun v w' => PtrR (RS RI 1) w' v el1) (by intro v w1 w2 hx h; exact h.ext (RS.mono RI.mono) hx),
    Fact.mem [19] (fun v w' => ∃ y_1 : Value, v = y_1 ∧ Sl RI 1 w' y_1 el1) (by rintro v w1 w2 hx ⟨z1, rfl, k0⟩; exact ⟨_, rfl, (k0.ext RI.mono hx)⟩),
    Fact.pure [] (fun v => v = (.slice p_b L_b.length q_b)),
    Fact.pure [] (fun v => v = (Iv (k : Int))),
    Fact.mem [21, 22] (fun v w' => PtrR (RS RI 1) w' v el2) (by intro v w1 w2 hx h; exact h.ext (RS.mono RI.mono) hx),
    Fact.mem [23] (fun v w' => ∃ y_1 : Value, v = y_1 ∧ Sl RI 1 w' y_1 el2) (by rintro v w1 w2 hx ⟨z1, rfl, k0⟩; exact ⟨_, rfl, (k0.ext RI.mono hx)⟩),
    Fact.pure [20, 24] (fun v => v = (Bo (sameX eqI el1 el2))),
    Fact.pure [25] (fun v => v = (Bo (!(sameX eqI el1 el2))))]) mixed (by kernel_rfl) (by intro _ _ d _ _ h; cases d <;> exact h) ?_
      obtain ⟨w19, hw21⟩ : ∃ w', w' = World.drew w10 := ⟨_, rfl⟩; rw [← hw21]; have E20 : Ext w10 w19 := by rw [hw21]; exact Ext.draw _
      clear hw21
      have X22 := Ext.gr X13 E20
      refine RW_d _ rfl (fun v => by dsimp only [List.set]; try rfl) (fun u hu hF => ?_) (fun v23 => ?_)
      · clear hF
        refine doesG_un rfl ?_
        refine (does_move (u := (.slice p_a L_a.length q_a)) (ev rfl)).mono ?_; rintro _ _ ⟨rfl, rfl⟩
        exact ⟨rfl, Ext.refl _⟩
      refine RW_d _ rfl (fun v => by dsimp only [List.set]; try rfl) (fun u hu hF => ?_) (fun v24 => ?_)
      · clear hF
        refine doesG_un rfl ?_
        refine (does_move (u := (Iv (k : Int))) (ev rfl)).mono ?_; rintro _ _ ⟨rfl, rfl⟩
        exact ⟨rfl, Ext.refl _⟩
      refine RW_d _ rfl (fun v => by dsimp only [List.set]; try rfl) (fun u hu hF => ?_) (fun v25 => ?_)
      · have h17_ : v23 = (.slice p_a L_a.length q_a) := hF.1
        have h18_ : v24 = (Iv (k : Int)) := hF.2.1
        clear hF
        refine doesG_un rfl ?_
        obtain rfl := h17_
        obtain rfl := h18_
        refine (does_indexSl (R := (RS RI 1)) (i := (k : Int)) (xs := L_a) (e := el1) Try.underlying23 Try.sizeOf40 (ev rfl) (ev rfl) (Sl.ext (Sl.ext hv_a (RS.mono RI.mono) (Ext.gr X13 E20)) (RS.mono RI.mono) hu) (by omega) hel1).mono ?_; rintro v u' ⟨b, of, cs, hv, hc, hR, hu'⟩; subst hu'
        exact ⟨⟨b, of, cs, hv, hc, hR⟩, Ext.refl _⟩
      refine RW_d _ rfl (fun v => by dsimp only [List.set]; try rfl) (fun u hu hF => ?_) (fun v26 => ?_)
      · have h19_ : PtrR (RS RI 1) u v25 el1 := hF.1
        clear hF
        refine doesG_un rfl ?_
        obtain ⟨b19_, o19_, _, rfl, hc19_, ⟨y19_1, rfl, h19_2⟩⟩ := h19_
        have hh19_2 := h19_2; obtain ⟨p19_3, q19_4, rfl⟩ := Sl.shape h19_2
        refine (does_load (u := (.slice p19_3 el1.length q19_4)) (ev rfl) Try.isAgg40 (Cells.at hc19_ 0 rfl)).mono ?_; rintro _ _ ⟨rfl, rfl⟩
        exact ⟨⟨(.slice p19_3 el1.length q19_4), rfl, (by assumption)⟩, Ext.refl _⟩
      refine RW_d _ rfl (fun v => by dsimp only [List.set]; try rfl) (fun u hu hF => ?_) (fun v27 => ?_)
      · clear hF
        refine doesG_un rfl ?_
        refine (does_move (u := (.slice p_b L_b.length q_b)) (ev rfl)).mono ?_; rintro _ _ ⟨rfl, rfl⟩
        exact ⟨rfl, Ext.refl _⟩
      refine RW_d _ rfl (fun v => by dsimp only [List.set]; try rfl) (fun u hu hF => ?_) (fun v28 => ?_)
      · clear hF
        refine doesG_un rfl ?_
        refine (does_move (u := (Iv (k : Int))) (ev rfl)).mono ?_; rintro _ _ ⟨rfl, rfl⟩
        exact ⟨rfl, Ext.refl _⟩
      refine RW_d _ rfl (fun v => by dsimp only [List.set]; try rfl) (fun u hu hF => ?_) (fun v29 => ?_)
      · have h21_ : v27 = (.slice p_b L_b.length q_b) := hF.1
        have h22_ : v28 = (Iv (k : Int)) := hF.2.1
        clear hF
        refine doesG_un rfl ?_
        obtain rfl := h21_
        obtain rfl := h22_
        refine (does_indexSl (R := (RS RI 1)) (i := (k : Int)) (xs := L_b) (e := el2) Try.underlying23 Try.sizeOf40 (ev rfl) (ev rfl) (Sl.ext (Sl.ext hv_b (RS.mono RI.mono) (Ext.gr X13 E20)) (RS.mono RI.mono) hu) (by omega) hel2).mono ?_; rintro v u' ⟨b, of, cs, hv, hc, hR, hu'⟩; subst hu'
        exact ⟨⟨b, of, cs, hv, hc, hR⟩, Ext.refl _⟩
      refine RW_d _ rfl (fun v => by dsimp only [List.set]; try rfl) (fun u hu hF => ?_) (fun v30 => ?_)
      · have h23_ : PtrR (RS RI 1) u v29 el2 := hF.1
        clear hF
        refine doesG_un rfl ?_
        obtain ⟨b23_, o23_, _, rfl, hc23_, ⟨y23_1, rfl, h23_2⟩⟩ := h23_
        have hh23_2 := h23_2; obtain ⟨p23_3, q23_4, rfl⟩ := Sl.shape h23_2
        refine (does_load (u := (.slice p23_3 el2.length q23_4)) (ev rfl) Try.isAgg40 (Cells.at hc23_ 0 rfl)).mono ?_; rintro _ _ ⟨rfl, rfl⟩
        exact ⟨⟨(.slice p23_3 el2.length q23_4), rfl, (by assumption)⟩, Ext.refl _⟩
      refine RW_d _ rfl (fun v => by dsimp only [List.set]; try rfl) (fun u hu hF => ?_) (fun v31 => ?_)
      · have h20_ : ∃ y_1 : Value, v26 = y_1 ∧ Sl RI 1 u y_1 el1 := hF.1
        have h24_ : ∃ y_1 : Value, v30 = y_1 ∧ Sl RI 1 u y_1 el2 := hF.2.1
        clear hF
        refine doesG_un rfl ?_
        obtain ⟨y20_1, rfl, h20_2⟩ := h20_
        have hh20_2 := h20_2; obtain ⟨p20_3, q20_4, rfl⟩ := Sl.shape h20_2
        obtain ⟨y24_1, rfl, h24_2⟩ := h24_
        have hh24_2 := h24_2; obtain ⟨p24_3, q24_4, rfl⟩ := Sl.shape h24_2
        refine (does_call (args := #[(.slice p20_3 el1.length q20_4), (.slice p24_3 el2.length q24_4)]) cal34 (evs rfl) (c_laws_eqInt64S (.slice p20_3 el1.length q20_4) el1 (.slice p24_3 el2.length q24_4) el2 _ hh20_2 hh24_2)).mono ?_; rintro v u' ⟨hx, hv⟩
        exact ⟨hv, hx⟩
      refine RW_d _ rfl (fun v => by dsimp only [List.set]; try rfl) (fun u hu hF => ?_) (fun v32 => ?_)
      · have h25_ : v31 = (Bo (sameX eqI el1 el2)) := hF.1
        clear hF
        refine doesG_un rfl ?_
        obtain rfl := h25_
        refine (does_not (ev rfl)).mono ?_; rintro _ _ ⟨rfl, rfl⟩
        exact ⟨rfl, Ext.refl _⟩
      refine RW_fin ?_; intro w33 E34 hP35
      obtain ⟨⟨⟨⟨⟨⟨⟨⟨⟨⟨-, -⟩, -⟩, -⟩, -⟩, -⟩, -⟩, -⟩, -⟩, -⟩, q36⟩ := hP35
      have X37 := Ext.gr X22 E34
      have q36 : v32 = (Bo (!(sameX eqI el1 el2))) := q36
      obtain rfl := q36
      show wpList _ _ _ _ (fr [_, _, _, _, _, _, _, _, _, _, _, _, _, _, _, _, _, _, _, _, _, _, _, _, _, _, _]) _
      refine wpList_nil (hK18 _ _ ?_)
      refine wp_cond_split (t := !(sameX eqI el1 el2)) (ev rfl) (fun c38 => ?_) (fun c38 => ?_)
      · rw [Bool.not_eq_true'] at c38
        have c38' := c38
        refine wp_seq_k fun K39 hK39 => ?_
        refine wp_region_lit ?_
        refine q_is rfl rfl (does_assign (u := (Bo false)) (ev rfl)) (by dsimp only [List.set]; try rfl) ?_
        refine wpList_nil (hK39 _ _ ?_)
        refine wp_ret ?_
        dsimp only [Exit.then, Exit.inBlock]
        refine ret_val (v := (Bo false)) (res_T rfl (slot rfl)) X37 ?_
        try simp only [hel1, hel2] at c4 c16 c38
        have x40 : (sameX eqIs L_a L_b) = false := by first | exact (sameX_len (by omega)) | exact (sameX_not (by omega) (by assumption) (by assumption) (by show sameX eqI _ _ = _; assumption)) | exact (sameX_all (by omega) (by omega) hs)
        exact (by first | with_reducible rfl | rw [x40] | rfl)
      rw [Bool.not_eq_false'] at c38
      have c38' := c38
      refine wp_skip (hK17 _ _ ?_)
      refine wp_region_lit ?_
      refine q_is rfl rfl (does_move (u := (Iv (k : Int))) (ev rfl)) (by dsimp only [List.set]; try rfl) ?_
      refine q_is rfl rfl (does_iarith (p := (k : Int)) (q := 1) (r := (k : Int) + 1) (ev rfl) (ev rfl) (.inl ⟨rfl, (in_i64 (by omega) (by omega)).symm⟩)) (by dsimp only [List.set]; try rfl) ?_
      refine q_is rfl rfl (does_assign (u := (Iv ((k : Int) + 1))) (ev rfl)) (by dsimp only [List.set]; try rfl) ?_
      refine wpList_nil ?_
      refine ⟨k + 1, ⟨fun t => (([(.slice p_a L_a.length q_a), (.slice p_b L_b.length q_b), Ud, Ud, (u9 4), (Iv ((k : Int) + 1)), (.slice p_a L_a.length q_a), (Iv (L_a.length : Int)), (.slice p_b L_b.length q_b), (Iv (L_b.length : Int)), (Bo (icmp .neq (L_a.length : Int) (L_b.length : Int))), (Iv (k : Int)), (.slice p_a L_a.length q_a), (Iv (L_a.length : Int)), (Bo (icmp .lss (k : Int) (L_a.length : Int))), (Iv (k : Int)), (Iv ((k : Int) + 1)), v23, v24, v25, v26, v27, v28, v29, v30, v31, (Bo (!(sameX eqI el1 el2)))] : List Value)[t]?).getD undef, ?_, (Ext.gr (Ext.gr E11 E20) E34), ?_⟩, ?_⟩
      · first | rfl | (simp only [Int.natCast_add, Int.natCast_one]; rfl)
      · exact ⟨by omega, SameXTo.step hs (by assumption) (by assumption) (by show sameX eqI _ _ = _; assumption)⟩
      · omega
    have c16' := c16
    (try simp only [icmp, Bool.and_eq_true, Bool.or_eq_true, Bool.and_eq_false_iff, Bool.or_eq_false_iff, Bool.not_eq_true', Bool.not_eq_false', decide_eq_true_eq, decide_eq_false_iff_not, beq_iff_eq, bne_iff_ne, beq_eq_false_iff_ne, bne_eq_false_iff_eq] at c16')
    refine wp_exit ?_
    refine hK7 _ _ ?_
    refine wp_seq_k fun K41 hK41 => ?_
    refine wp_region_lit ?_
    refine q_is rfl rfl (does_assign (u := (Bo true)) (ev rfl)) (by dsimp only [List.set]; try rfl) ?_
    refine wpList_nil (hK41 _ _ ?_)
    refine wp_ret ?_
    refine ret_val (v := (Bo true)) (res_T rfl (slot rfl)) X13 ?_
    have x42 : (sameX eqIs L_a L_b) = true := by first | exact (sameX_len (by omega)) | exact (sameX_not (by omega) (by assumption) (by assumption) (by show sameX eqI _ _ = _; assumption)) | exact (sameX_all (by omega) (by omega) hs)
    exact (by first | with_reducible rfl | rw [x42] | rfl)

/- laws.eqMesh -/
theorem c_laws_eqMesh (a : List Value) (A_a : MeshT) (b : List Value) (A_b : MeshT) (w : World) (hv_a : RMeshT w A_a a) (hv_b : RMeshT w A_b b) : Gives Try.prog 8 #[(.agg a.toArray), (.agg b.toArray)] w (fun v w' => v = (Bo (sameMesh A_a A_b))) := by
  obtain ⟨y1, y3, rfl, h2, h4⟩ := hv_a
  obtain ⟨y5, y7, rfl, h6, h8⟩ := hv_b
  have hs11 := h2; have hs11l := Sl.len h2; obtain ⟨p9, q10, rfl⟩ := Sl.shape h2
  have hs14 := h4; have hs14l := Sl.len h4; obtain ⟨p12, q13, rfl⟩ := Sl.shape h4
  have hs17 := h6; have hs17l := Sl.len h6; obtain ⟨p15, q16, rfl⟩ := Sl.shape h6
  have hs20 := h8; have hs20l := Sl.len h8; obtain ⟨p18, q19, rfl⟩ := Sl.shape h8
  refine enter [(.agg #[(.slice p9 A_a.places.length q10), (.slice p12 A_a.tris.length q13)]), (.agg #[(.slice p15 A_b.places.length q16), (.slice p18 A_b.tris.length q19)]), Ud, Ud, Ud, Ud, Ud, Ud, Ud, Ud, Ud, Ud, Ud, Ud, Ud, Ud, Ud] Try.func8 rfl Try.ntmps8 rfl ?_
  refine wp_seq_k fun K21 hK21 => ?_
  refine wp_region_lit ?_
  refine seqd rfl rfl (does_box (u := (.agg #[(.slice p9 A_a.places.length q10), (.slice p12 A_a.tris.length q13)])) (ev rfl)) ?_; rintro _ w26 ⟨b22, rfl, hb23, hB24, E25⟩
  have g27 : w.heap.size ≤ b22 := Nat.le_trans (Below.size (Ext.refl w)) hb23
  change Blk _ _ [(.slice p9 A_a.places.length q10), (.slice p12 A_a.tris.length q13)] at hB24
  have X28 := Ext.gr (Ext.refl w) E25
  show wpList _ _ _ _ (fr [(.agg #[(.slice p9 A_a.places.length q10), (.slice p12 A_a.tris.length q13)]), (.agg #[(.slice p15 A_b.places.length q16), (.slice p18 A_b.tris.length q19)]), (Pt b22 0), Ud, Ud, Ud, Ud, Ud, Ud, Ud, Ud, Ud, Ud, Ud, Ud, Ud, Ud]) _
  refine seqd rfl rfl (does_box (u := (.agg #[(.slice p15 A_b.places.length q16), (.slice p18 A_b.tris.length q19)])) (ev rfl)) ?_; rintro _ w33 ⟨b29, rfl, hb30, hB31, E32⟩
  have n34 : b22 < b29 := Nat.lt_of_lt_of_le (Blk.lt hB24) hb30
  have g35 : w.heap.size ≤ b29 := Nat.le_trans (Below.size X28) hb30
  change Blk _ _ [(.slice p15 A_b.places.length q16), (.slice p18 A_b.tris.length q19)] at hB31
  have X36 := Ext.gr X28 E32
  show wpList _ _ _ _ (fr [(.agg #[(.slice p9 A_a.places.length q10), (.slice p12 A_a.tris.length q13)]), (.agg #[(.slice p15 A_b.places.length q16), (.slice p18 A_b.tris.length q19)]), (Pt b22 0), (Pt b29 0), Ud, Ud, Ud, Ud, Ud, Ud, Ud, Ud, Ud, Ud, Ud, Ud, Ud]) _
  refine q_is (l' := [(.agg #[(.slice p9 A_a.places.length q10), (.slice p12 A_a.tris.length q13)]), (.agg #[(.slice p15 A_b.places.length q16), (.slice p18 A_b.tris.length q19)]), (Pt b22 0), (Pt b29 0), (Bo false), Ud, Ud, Ud, Ud, Ud, Ud, Ud, Ud, Ud, Ud, Ud, Ud]) rfl rfl (does_assign (u := (Bo false)) (ev rfl)) rfl ?_
  refine wpList_nil (hK21 _ _ ?_)
  refine wp_seq_k fun K37 hK37 => ?_
  refine wp_seq_k fun K38 hK38 => ?_
  refine wp_region_lit ?_
  refine q_is (l' := [(.agg #[(.slice p9 A_a.places.length q10), (.slice p12 A_a.tris.length q13)]), (.agg #[(.slice p15 A_b.places.length q16), (.slice p18 A_b.tris.length q19)]), (Pt b22 0), (Pt b29 0), (Bo false), (Pt b22 0), Ud, Ud, Ud, Ud, Ud, Ud, Ud, Ud, Ud, Ud, Ud]) rfl rfl (does_fieldAddr (ev rfl) fa29_0) rfl ?_
  refine q_is (l' := [(.agg #[(.slice p9 A_a.places.length q10), (.slice p12 A_a.tris.length q13)]), (.agg #[(.slice p15 A_b.places.length q16), (.slice p18 A_b.tris.length q19)]), (Pt b22 0), (Pt b29 0), (Bo false), (Pt b22 0), (.slice p9 A_a.places.length q10), Ud, Ud, Ud, Ud, Ud, Ud, Ud, Ud, Ud, Ud]) rfl rfl (does_load (u := (.slice p9 A_a.places.length q10)) (ev rfl) Try.isAgg27 (Cells.at (Blk.cells (hB24.ext E32)) 0 rfl)) rfl ?_
  refine q_is (l' := [(.agg #[(.slice p9 A_a.places.length q10), (.slice p12 A_a.tris.length q13)]), (.agg #[(.slice p15 A_b.places.length q16), (.slice p18 A_b.tris.length q19)]), (Pt b22 0), (Pt b29 0), (Bo false), (Pt b22 0), (.slice p9 A_a.places.length q10), (Pt b29 0), Ud, Ud, Ud, Ud, Ud, Ud, Ud, Ud, Ud]) rfl rfl (does_fieldAddr (ev rfl) fa29_0) rfl ?_
  refine q_is (l' := [(.agg #[(.slice p9 A_a.places.length q10), (.slice p12 A_a.tris.length q13)]), (.agg #[(.slice p15 A_b.places.length q16), (.slice p18 A_b.tris.length q19)]), (Pt b22 0), (Pt b29 0), (Bo false), (Pt b22 0), (.slice p9 A_a.places.length q10), (Pt b29 0), (.slice p15 A_b.places.length q16), Ud, Ud, Ud, Ud, Ud, Ud, Ud, Ud]) rfl rfl (does_load (u := (.slice p15 A_b.places.length q16)) (ev rfl) Try.isAgg27 (Cells.at (Blk.cells hB31) 0 rfl)) rfl ?_
  refine seqd rfl rfl (does_call (args := #[(.slice p9 A_a.places.length q10), (.slice p15 A_b.places.length q16)]) cal19 (evs rfl) (c_laws_eqVectorS (.slice p9 A_a.places.length q10) A_a.places (.slice p15 A_b.places.length q16) A_b.places _ (Sl.ext hs11 RV3.mono X36) (Sl.ext hs17 RV3.mono X36))) ?_; rintro _ w40 ⟨E39, rfl⟩
  have X41 := Ext.gr X36 E39
  show wpList _ _ _ _ (fr [(.agg #[(.slice p9 A_a.places.length q10), (.slice p12 A_a.tris.length q13)]), (.agg #[(.slice p15 A_b.places.length q16), (.slice p18 A_b.tris.length q19)]), (Pt b22 0), (Pt b29 0), (Bo false), (Pt b22 0), (.slice p9 A_a.places.length q10), (Pt b29 0), (.slice p15 A_b.places.length q16), (Bo (sameX sameV A_a.places A_b.places)), Ud, Ud, Ud, Ud, Ud, Ud, Ud]) _
  refine q_is (l' := [(.agg #[(.slice p9 A_a.places.length q10), (.slice p12 A_a.tris.length q13)]), (.agg #[(.slice p15 A_b.places.length q16), (.slice p18 A_b.tris.length q19)]), (Pt b22 0), (Pt b29 0), (Bo false), (Pt b22 0), (.slice p9 A_a.places.length q10), (Pt b29 0), (.slice p15 A_b.places.length q16), (Bo (sameX sameV A_a.places A_b.places)), (Bo (!(sameX sameV A_a.places A_b.places))), Ud, Ud, Ud, Ud, Ud, Ud]) rfl rfl (does_not (ev rfl)) rfl ?_
  refine wpList_nil (hK38 _ _ ?_)
  refine wp_cond_split (t := !(sameX sameV A_a.places A_b.places)) (ev rfl) (fun c42 => ?_) (fun c42 => ?_)
  · rw [Bool.not_eq_true'] at c42
    have c42' := c42
    refine wp_seq_k fun K43 hK43 => ?_
    refine wp_region_lit ?_
    refine q_is (l' := [(.agg #[(.slice p9 A_a.places.length q10), (.slice p12 A_a.tris.length q13)]), (.agg #[(.slice p15 A_b.places.length q16), (.slice p18 A_b.tris.length q19)]), (Pt b22 0), (Pt b29 0), (Bo false), (Pt b22 0), (.slice p9 A_a.places.length q10), (Pt b29 0), (.slice p15 A_b.places.length q16), (Bo (sameX sameV A_a.places A_b.places)), (Bo (!(sameX sameV A_a.places A_b.places))), Ud, Ud, Ud, Ud, Ud, Ud]) rfl rfl (does_assign (u := (Bo false)) (ev rfl)) rfl ?_
    refine wpList_nil (hK43 _ _ ?_)
    refine wp_ret ?_
    dsimp only [Exit.then, Exit.inBlock]
    refine ret_val (v := (Bo false)) (res_T rfl (slot rfl)) X41 ?_
    have x44 : (sameMesh A_a A_b) = false := by first | with_reducible rfl | (simp only [sameMesh, c42]; done) | (simp [sameMesh, c42]; done) | (revert c42; simp +contextual [sameMesh]; done) | (rcases c42' with hh | hh <;> simp only [hh, sameMesh, c42]; done) | (rcases c42' with hh | hh <;> simp_all [sameMesh]; done) | (rcases c42' with hh | hh | hh <;> simp_all [sameMesh]; done) | (rcases c42' with hh | hh | hh | hh <;> simp_all [sameMesh]; done) | (simp_all [sameMesh]; done) | rfl
    exact (by first | with_reducible rfl | rw [x44] | rfl)
  rw [Bool.not_eq_false'] at c42
  have c42' := c42
  refine wp_skip (hK37 _ _ ?_)
  refine wp_seq_k fun K45 hK45 => ?_
  refine wp_seq_k fun K46 hK46 => ?_
  refine wp_region_lit ?_
  refine q_is (l' := [(.agg #[(.slice p9 A_a.places.length q10), (.slice p12 A_a.tris.length q13)]), (.agg #[(.slice p15 A_b.places.length q16), (.slice p18 A_b.tris.length q19)]), (Pt b22 0), (Pt b29 0), (Bo false), (Pt b22 0), (.slice p9 A_a.places.length q10), (Pt b29 0), (.slice p15 A_b.places.length q16), (Bo (sameX sameV A_a.places A_b.places)), (Bo (!(sameX sameV A_a.places A_b.places))), (Pt b22 1), Ud, Ud, Ud, Ud, Ud]) rfl rfl (does_fieldAddr (ev rfl) fa29_1) rfl ?_
  refine q_is (l' := [(.agg #[(.slice p9 A_a.places.length q10), (.slice p12 A_a.tris.length q13)]), (.agg #[(.slice p15 A_b.places.length q16), (.slice p18 A_b.tris.length q19)]), (Pt b22 0), (Pt b29 0), (Bo false), (Pt b22 0), (.slice p9 A_a.places.length q10), (Pt b29 0), (.slice p15 A_b.places.length q16), (Bo (sameX sameV A_a.places A_b.places)), (Bo (!(sameX sameV A_a.places A_b.places))), (Pt b22 1), (.slice p12 A_a.tris.length q13), Ud, Ud, Ud, Ud]) rfl rfl (does_load (u := (.slice p12 A_a.tris.length q13)) (ev rfl) Try.isAgg23 (Cells.at (Blk.cells ((hB24.ext E32).ext E39)) 1 rfl)) rfl ?_
  refine q_is (l' := [(.agg #[(.slice p9 A_a.places.length q10), (.slice p12 A_a.tris.length q13)]), (.agg #[(.slice p15 A_b.places.length q16), (.slice p18 A_b.tris.length q19)]), (Pt b22 0), (Pt b29 0), (Bo false), (Pt b22 0), (.slice p9 A_a.places.length q10), (Pt b29 0), (.slice p15 A_b.places.length q16), (Bo (sameX sameV A_a.places A_b.places)), (Bo (!(sameX sameV A_a.places A_b.places))), (Pt b22 1), (.slice p12 A_a.tris.length q13), (Pt b29 1), Ud, Ud, Ud]) rfl rfl (does_fieldAddr (ev rfl) fa29_1) rfl ?_
  refine q_is (l' := [(.agg #[(.slice p9 A_a.places.length q10), (.slice p12 A_a.tris.length q13)]), (.agg #[(.slice p15 A_b.places.length q16), (.slice p18 A_b.tris.length q19)]), (Pt b22 0), (Pt b29 0), (Bo false), (Pt b22 0), (.slice p9 A_a.places.length q10), (Pt b29 0), (.slice p15 A_b.places.length q16), (Bo (sameX sameV A_a.places A_b.places)), (Bo (!(sameX sameV A_a.places A_b.places))), (Pt b22 1), (.slice p12 A_a.tris.length q13), (Pt b29 1), (.slice p18 A_b.tris.length q19), Ud, Ud]) rfl rfl (does_load (u := (.slice p18 A_b.tris.length q19)) (ev rfl) Try.isAgg23 (Cells.at (Blk.cells (hB31.ext E39)) 1 rfl)) rfl ?_
  refine seqd rfl rfl (does_call (args := #[(.slice p12 A_a.tris.length q13), (.slice p18 A_b.tris.length q19)]) cal20 (evs rfl) (c_laws_eqInt64SS (.slice p12 A_a.tris.length q13) A_a.tris (.slice p18 A_b.tris.length q19) A_b.tris _ (Sl.ext hs14 (RS.mono RI.mono) X41) (Sl.ext hs20 (RS.mono RI.mono) X41))) ?_; rintro _ w48 ⟨E47, rfl⟩
  have X49 := Ext.gr X41 E47
  show wpList _ _ _ _ (fr [(.agg #[(.slice p9 A_a.places.length q10), (.slice p12 A_a.tris.length q13)]), (.agg #[(.slice p15 A_b.places.length q16), (.slice p18 A_b.tris.length q19)]), (Pt b22 0), (Pt b29 0), (Bo false), (Pt b22 0), (.slice p9 A_a.places.length q10), (Pt b29 0), (.slice p15 A_b.places.length q16), (Bo (sameX sameV A_a.places A_b.places)), (Bo (!(sameX sameV A_a.places A_b.places))), (Pt b22 1), (.slice p12 A_a.tris.length q13), (Pt b29 1), (.slice p18 A_b.tris.length q19), (Bo (sameX eqIs A_a.tris A_b.tris)), Ud]) _
  refine q_is (l' := [(.agg #[(.slice p9 A_a.places.length q10), (.slice p12 A_a.tris.length q13)]), (.agg #[(.slice p15 A_b.places.length q16), (.slice p18 A_b.tris.length q19)]), (Pt b22 0), (Pt b29 0), (Bo false), (Pt b22 0), (.slice p9 A_a.places.length q10), (Pt b29 0), (.slice p15 A_b.places.length q16), (Bo (sameX sameV A_a.places A_b.places)), (Bo (!(sameX sameV A_a.places A_b.places))), (Pt b22 1), (.slice p12 A_a.tris.length q13), (Pt b29 1), (.slice p18 A_b.tris.length q19), (Bo (sameX eqIs A_a.tris A_b.tris)), (Bo (!(sameX eqIs A_a.tris A_b.tris)))]) rfl rfl (does_not (ev rfl)) rfl ?_
  refine wpList_nil (hK46 _ _ ?_)
  refine wp_cond_split (t := !(sameX eqIs A_a.tris A_b.tris)) (ev rfl) (fun c50 => ?_) (fun c50 => ?_)
  · rw [Bool.not_eq_true'] at c50
    have c50' := c50
    refine wp_seq_k fun K51 hK51 => ?_
    refine wp_region_lit ?_
    refine q_is (l' := [(.agg #[(.slice p9 A_a.places.length q10), (.slice p12 A_a.tris.length q13)]), (.agg #[(.slice p15 A_b.places.length q16), (.slice p18 A_b.tris.length q19)]), (Pt b22 0), (Pt b29 0), (Bo false), (Pt b22 0), (.slice p9 A_a.places.length q10), (Pt b29 0), (.slice p15 A_b.places.length q16), (Bo (sameX sameV A_a.places A_b.places)), (Bo (!(sameX sameV A_a.places A_b.places))), (Pt b22 1), (.slice p12 A_a.tris.length q13), (Pt b29 1), (.slice p18 A_b.tris.length q19), (Bo (sameX eqIs A_a.tris A_b.tris)), (Bo (!(sameX eqIs A_a.tris A_b.tris)))]) rfl rfl (does_assign (u := (Bo false)) (ev rfl)) rfl ?_
    refine wpList_nil (hK51 _ _ ?_)
    refine wp_ret ?_
    dsimp only [Exit.then, Exit.inBlock]
    refine ret_val (v := (Bo false)) (res_T rfl (slot rfl)) X49 ?_
    have x52 : (sameMesh A_a A_b) = false := by first | with_reducible rfl | (simp only [sameMesh, c42, c50]; done) | (simp [sameMesh, c42, c50]; done) | (revert c42 c50; simp +contextual [sameMesh]; done) | (rcases c42' with hh | hh <;> simp only [hh, sameMesh, c42, c50]; done) | (rcases c50' with hh | hh <;> simp only [hh, sameMesh, c42, c50]; done) | (rcases c50' with hh | hh <;> simp_all [sameMesh]; done) | (rcases c50' with hh | hh | hh <;> simp_all [sameMesh]; done) | (rcases c50' with hh | hh | hh | hh <;> simp_all [sameMesh]; done) | (simp_all [sameMesh]; done) | rfl
    exact (by first | with_reducible rfl | rw [x52] | rfl)
  rw [Bool.not_eq_false'] at c50
  have c50' := c50
  refine wp_skip (hK45 _ _ ?_)
  refine wp_seq_k fun K53 hK53 => ?_
  refine wp_region_lit ?_
  refine q_is (l' := [(.agg #[(.slice p9 A_a.places.length q10), (.slice p12 A_a.tris.length q13)]), (.agg #[(.slice p15 A_b.places.length q16), (.slice p18 A_b.tris.length q19)]), (Pt b22 0), (Pt b29 0), (Bo true), (Pt b22 0), (.slice p9 A_a.places.length q10), (Pt b29 0), (.slice p15 A_b.places.length q16), (Bo (sameX sameV A_a.places A_b.places)), (Bo (!(sameX sameV A_a.places A_b.places))), (Pt b22 1), (.slice p12 A_a.tris.length q13), (Pt b29 1), (.slice p18 A_b.tris.length q19), (Bo (sameX eqIs A_a.tris A_b.tris)), (Bo (!(sameX eqIs A_a.tris A_b.tris)))]) rfl rfl (does_assign (u := (Bo true)) (ev rfl)) rfl ?_
  refine wpList_nil (hK53 _ _ ?_)
  refine wp_ret ?_
  refine ret_val (v := (Bo true)) (res_T rfl (slot rfl)) X49 ?_
  have x54 : (sameMesh A_a A_b) = true := by first | with_reducible rfl | (simp only [sameMesh, c42, c50]; done) | (simp [sameMesh, c42, c50]; done) | (revert c42 c50; simp +contextual [sameMesh]; done) | (rcases c42' with hh | hh <;> simp only [hh, sameMesh, c42, c50]; done) | (rcases c50' with hh | hh <;> simp only [hh, sameMesh, c42, c50]; done) | (rcases c50' with hh | hh <;> simp_all [sameMesh]; done) | (rcases c50' with hh | hh | hh <;> simp_all [sameMesh]; done) | (rcases c50' with hh | hh | hh | hh <;> simp_all [sameMesh]; done) | (simp_all [sameMesh]; done) | rfl
  exact (by first | with_reducible rfl | rw [x54] | rfl)

theorem c_laws_markVectorS_nil (k : Int) (w : World) : Gives Try.prog 21 #[.slice none 0 0, Iv k] w (fun v _ => v = Iv k) := by
  refine enter [(.slice none 0 0), (Iv k), Ud, Ud, Ud, Ud, Ud, Ud, Ud, Ud, Ud, Ud, Ud, Ud, Ud, Ud, Ud, Ud, Ud, Ud, Ud, Ud, Ud, Ud, Ud, Ud, Ud, Ud, Ud, Ud, Ud, Ud, Ud, Ud, Ud, Ud, Ud] Try.func21 rfl Try.ntmps21 rfl ?_
  refine wp_seq_k fun K1 hK1 => ?_
  refine wp_region_lit ?_
  refine q_is rfl rfl (does_assign (u := (Iv 0)) (ev rfl)) (by dsimp only [List.set]; try rfl) ?_
  refine wpList_nil (hK1 _ _ ?_)
  refine wp_seq_k fun K2 hK2 => ?_
  refine wp_seq_k fun K3 hK3 => ?_
  refine wp_region_lit ?_
  refine q_is rfl rfl (does_assign (u := (Iv 0)) (ev rfl)) (by dsimp only [List.set]; try rfl) ?_
  refine wpList_nil (hK3 _ _ ?_)
  refine wp_block ?_
  refine loop_unroll 1 ?_
  refine un_step ?_
  refine wp_seq_k fun K4 hK4 => ?_
  refine wp_seq_k fun K5 hK5 => ?_
  refine wp_region_lit ?_
  refine q_is rfl rfl (does_move (u := (Iv 0)) (ev rfl)) (by dsimp only [List.set]; try rfl) ?_
  refine q_is rfl rfl (does_move (u := (.slice none 0 0)) (ev rfl)) (by dsimp only [List.set]; try rfl) ?_
  refine q_is rfl rfl (does_len_slice Try.underlying27 (ev rfl)) (by dsimp only [List.set]; try rfl) ?_
  refine q_is rfl rfl (does_icmp (p := 0) (q := 0) (.inr (.inr (.inl rfl))) (ev rfl) (ev rfl)) (by dsimp only [List.set]; try rfl) ?_
  refine wpList_nil (hK5 _ _ ?_)
  refine wp_cond_false (ev rfl) ?_
  refine wp_exit ?_
  refine hK2 _ _ ?_
  refine wp_seq_k fun K6 hK6 => ?_
  refine wp_region_lit ?_
  refine q_is rfl rfl (does_move (u := (Iv k)) (ev rfl)) (by dsimp only [List.set]; try rfl) ?_
  refine q_is rfl rfl (does_assign (u := (Iv k)) (ev rfl)) (by dsimp only [List.set]; try rfl) ?_
  refine wpList_nil (hK6 _ _ ?_)
  refine wp_ret ?_
  refine ret_val (v := (Iv k)) (res_T rfl (slot rfl)) (Ext.refl w) ?_
  have x7 : (k : Int) = k := by first | with_reducible rfl | (simp only []; done) | (simp []; done) | rfl
  exact (by first | with_reducible rfl | rw [x7] | rfl)

theorem c_laws_markVectorS_blk (g N n cap : Nat) (k : Int) (w : World) (hM : Mk true k w g N 0) (hn : n * 3 ≤ N) (h0 : 0 ≤ k) (h1 : k + (n : Int) * 3 ≤ 4611686018427387904) : GivesK [g] Try.prog 21 #[.slice (some ⟨g, 0, none⟩) n cap, Iv k] w (fun v w' => v = Iv (k + (n : Int) * 3) ∧ Mk true k w' g N (n * 3)) := by
  refine enterK [(.slice (some ⟨g, 0, none⟩) n cap), (Iv k), Ud, Ud, Ud, Ud, Ud, Ud, Ud, Ud, Ud, Ud, Ud, Ud, Ud, Ud, Ud, Ud, Ud, Ud, Ud, Ud, Ud, Ud, Ud, Ud, Ud, Ud, Ud, Ud, Ud, Ud, Ud, Ud, Ud, Ud, Ud] Try.func21 rfl Try.ntmps21 rfl ?_
  refine wp_seq_k fun K1 hK1 => ?_
  refine wp_region_lit ?_
  refine q_is rfl rfl (does_assign (u := (Iv 0)) (ev rfl)) (by dsimp only [List.set]; try rfl) ?_
  refine wpList_nil (hK1 _ _ ?_)
  refine wp_seq_k fun K2 hK2 => ?_
  refine wp_seq_k fun K3 hK3 => ?_
  refine wp_region_lit ?_
  refine q_is rfl rfl (does_assign (u := (Iv 0)) (ev rfl)) (by dsimp only [List.set]; try rfl) ?_
  refine wpList_nil (hK3 _ _ ?_)
  refine wp_block ?_
  refine loop_ghost (σ := Nat × Int) (fun s a w' => ∃ u4 : Nat → Value, a = fr [(.slice (some ⟨g, 0, none⟩) n cap), (Iv s.2), Ud, Ud, (Iv 0), (Iv (s.1 : Int)), (u4 6), (u4 7), (u4 8), (u4 9), (u4 10), (u4 11), (u4 12), (u4 13), (u4 14), (u4 15), (u4 16), (u4 17), (u4 18), (u4 19), (u4 20), (u4 21), (u4 22), (u4 23), (u4 24), (u4 25), (u4 26), (u4 27), (u4 28), (u4 29), (u4 30), (u4 31), (u4 32), (u4 33), (u4 34), (u4 35), Ud] ∧ KpL [g] w w' ∧ Mk true k w' g N (s.1 * 3) ∧ (s.1 ≤ n ∧ s.2 = k + (s.1 : Int) * 3)) (fun s => n - s.1) (0, k) ?_ ?_
  · refine ⟨fun t => (([(.slice (some ⟨g, 0, none⟩) n cap), (Iv k), Ud, Ud, (Iv 0), (Iv 0), Ud, Ud, Ud, Ud, Ud, Ud, Ud, Ud, Ud, Ud, Ud, Ud, Ud, Ud, Ud, Ud, Ud, Ud, Ud, Ud, Ud, Ud, Ud, Ud, Ud, Ud, Ud, Ud, Ud, Ud, Ud] : List Value)[t]?).getD undef, rfl, KpL.refl _ _, (Mk.cast hM (by simp)), ?_⟩
    exact ⟨Nat.zero_le _, by simp⟩
  · rintro s a w5 ⟨u4, rfl, E6, hF7, ⟨hk, hn2⟩⟩
    have X8 := KpL.more (KpL.refl [g] w) E6 (allS (.inl (by simp)) all0)
    refine wp_seq_k fun K9 hK9 => ?_
    refine wp_seq_k fun K10 hK10 => ?_
    refine wp_region_lit ?_
    refine q_is rfl rfl (does_move (u := (Iv (s.1 : Int))) (ev rfl)) (by dsimp only [List.set]; try rfl) ?_
    refine q_is rfl rfl (does_move (u := (.slice (some ⟨g, 0, none⟩) n cap)) (ev rfl)) (by dsimp only [List.set]; try rfl) ?_
    refine q_is rfl rfl (does_len_slice Try.underlying27 (ev rfl)) (by dsimp only [List.set]; try rfl) ?_
    refine q_is rfl rfl (does_icmp (p := (s.1 : Int)) (q := (n : Int)) (.inr (.inr (.inl rfl))) (ev rfl) (ev rfl)) (by dsimp only [List.set]; try rfl) ?_
    refine wpList_nil (hK10 _ _ ?_)
    refine wp_cond_split (t := icmp .lss (s.1 : Int) (n : Int)) (ev rfl) (fun c11 => ?_) (fun c11 => ?_)
    · have c11' := c11
      (try simp only [icmp, Bool.and_eq_true, Bool.or_eq_true, Bool.and_eq_false_iff, Bool.or_eq_false_iff, Bool.not_eq_true', Bool.not_eq_false', decide_eq_true_eq, decide_eq_false_iff_not, beq_iff_eq, bne_iff_ne, beq_eq_false_iff_ne, bne_eq_false_iff_eq] at c11')
      refine wp_skip (hK9 _ _ ?_)
      refine wp_seq_k fun K12 hK12 => ?_
      refine wp_block ?_
      refine wp_seq_k fun K13 hK13 => ?_
      refine wp_region_lit ?_
      refine q_is rfl rfl (does_move (u := (.slice (some ⟨g, 0, none⟩) n cap)) (ev rfl)) (by dsimp only [List.set]; try rfl) ?_
      refine q_is rfl rfl (does_move (u := (Iv (s.1 : Int))) (ev rfl)) (by dsimp only [List.set]; try rfl) ?_
      refine q_is rfl rfl (does_move (u := (Iv s.2)) (ev rfl)) (by dsimp only [List.set]; try rfl) ?_
      refine q_is rfl rfl (does_conv_if (k := .f32) Try.underlying3 Try.underlying51 (ev rfl)) (by dsimp only [List.set]; try rfl) ?_
      refine q_is rfl rfl (does_indexOwn (b := g) (n := n) (i := (s.1 : Int)) Try.underlying27 Try.sizeOf53 (ev rfl) (ev rfl) (by omega) (by omega)) (by dsimp only [List.set]; try rfl) ?_
      refine q_is rfl rfl (does_fieldAddr (ev rfl) fa53_0) (by dsimp only [List.set]; try rfl) ?_
      refine seqn rfl rfl (does_mark (fl := true) (k := k) (N := N) (off := s.1 * 3) (j := s.1 * 3) (u := (Fl (FloatKind.f32.nearest s.2))) (ev rfl) (ev rfl) Try.sizeOf51 (mkc_f (by first | rfl | omega)) (by omega) (by omega) hF7) ?_; rintro _ w16 ⟨rfl, W14, hM15⟩
      have X17 := KpL.more X8 (KpL.of_wr W14) (allS (.inl (by simp)) all0)
      refine wpList_nil (hK13 _ _ ?_)
      refine wp_seq_k fun K18 hK18 => ?_
      refine wp_region_lit ?_
      refine q_is rfl rfl (does_move (u := (Iv s.2)) (ev rfl)) (by dsimp only [List.set]; try rfl) ?_
      refine q_is rfl rfl (does_iarith (p := s.2) (q := 1) (r := s.2 + 1) (ev rfl) (ev rfl) (.inl ⟨rfl, (in_i64 (by omega) (by omega)).symm⟩)) (by dsimp only [List.set]; try rfl) ?_
      refine q_is rfl rfl (does_assign (u := (Iv (s.2 + 1))) (ev rfl)) (by dsimp only [List.set]; try rfl) ?_
      refine wpList_nil (hK18 _ _ ?_)
      refine wp_seq_k fun K19 hK19 => ?_
      refine wp_region_lit ?_
      refine q_is rfl rfl (does_move (u := (.slice (some ⟨g, 0, none⟩) n cap)) (ev rfl)) (by dsimp only [List.set]; try rfl) ?_
      refine q_is rfl rfl (does_move (u := (Iv (s.1 : Int))) (ev rfl)) (by dsimp only [List.set]; try rfl) ?_
      refine q_is rfl rfl (does_move (u := (Iv (s.2 + 1))) (ev rfl)) (by dsimp only [List.set]; try rfl) ?_
      refine q_is rfl rfl (does_conv_if (k := .f32) Try.underlying3 Try.underlying51 (ev rfl)) (by dsimp only [List.set]; try rfl) ?_
      refine q_is rfl rfl (does_indexOwn (b := g) (n := n) (i := (s.1 : Int)) Try.underlying27 Try.sizeOf53 (ev rfl) (ev rfl) (by omega) (by omega)) (by dsimp only [List.set]; try rfl) ?_
      refine q_is rfl rfl (does_fieldAddr (ev rfl) fa53_1) (by dsimp only [List.set]; try rfl) ?_
      refine seqn rfl rfl (does_mark (fl := true) (k := k) (N := N) (off := s.1 * 3 + 1) (j := s.1 * 3 + 1) (u := (Fl (FloatKind.f32.nearest (s.2 + 1)))) (ev rfl) (ev rfl) Try.sizeOf51 (mkc_f (by first | rfl | omega)) (by omega) (by omega) hM15) ?_; rintro _ w22 ⟨rfl, W20, hM21⟩
      have X23 := KpL.more X17 (KpL.of_wr W20) (allS (.inl (by simp)) all0)
      refine wpList_nil (hK19 _ _ ?_)
      refine wp_seq_k fun K24 hK24 => ?_
      refine wp_region_lit ?_
      refine q_is rfl rfl (does_move (u := (Iv (s.2 + 1))) (ev rfl)) (by dsimp only [List.set]; try rfl) ?_
      refine q_is rfl rfl (does_iarith (p := s.2 + 1) (q := 1) (r := (s.2 + 1) + 1) (ev rfl) (ev rfl) (.inl ⟨rfl, (in_i64 (by omega) (by omega)).symm⟩)) (by dsimp only [List.set]; try rfl) ?_
      refine q_is rfl rfl (does_assign (u := (Iv ((s.2 + 1) + 1))) (ev rfl)) (by dsimp only [List.set]; try rfl) ?_
      refine wpList_nil (hK24 _ _ ?_)
      refine wp_seq_k fun K25 hK25 => ?_
      refine wp_region_lit ?_
      refine q_is rfl rfl (does_move (u := (.slice (some ⟨g, 0, none⟩) n cap)) (ev rfl)) (by dsimp only [List.set]; try rfl) ?_
      refine q_is rfl rfl (does_move (u := (Iv (s.1 : Int))) (ev rfl)) (by dsimp only [List.set]; try rfl) ?_
      refine q_is rfl rfl (does_move (u := (Iv ((s.2 + 1) + 1))) (ev rfl)) (by dsimp only [List.set]; try rfl) ?_
      refine q_is rfl rfl (does_conv_if (k := .f32) Try.underlying3 Try.underlying51 (ev rfl)) (by dsimp only [List.set]; try rfl) ?_
      refine q_is rfl rfl (does_indexOwn (b := g) (n := n) (i := (s.1 : Int)) Try.underlying27 Try.sizeOf53 (ev rfl) (ev rfl) (by omega) (by omega)) (by dsimp only [List.set]; try rfl) ?_
      refine q_is rfl rfl (does_fieldAddr (ev rfl) fa53_2) (by dsimp only [List.set]; try rfl) ?_
      refine seqn rfl rfl (does_mark (fl := true) (k := k) (N := N) (off := s.1 * 3 + 2) (j := s.1 * 3 + 1 + 1) (u := (Fl (FloatKind.f32.nearest ((s.2 + 1) + 1)))) (ev rfl) (ev rfl) Try.sizeOf51 (mkc_f (by first | rfl | omega)) (by omega) (by omega) hM21) ?_; rintro _ w28 ⟨rfl, W26, hM27⟩
      have X29 := KpL.more X23 (KpL.of_wr W26) (allS (.inl (by simp)) all0)
      refine wpList_nil (hK25 _ _ ?_)
      refine wp_region_lit ?_
      refine q_is rfl rfl (does_move (u := (Iv ((s.2 + 1) + 1))) (ev rfl)) (by dsimp only [List.set]; try rfl) ?_
      refine q_is rfl rfl (does_iarith (p := (s.2 + 1) + 1) (q := 1) (r := ((s.2 + 1) + 1) + 1) (ev rfl) (ev rfl) (.inl ⟨rfl, (in_i64 (by omega) (by omega)).symm⟩)) (by dsimp only [List.set]; try rfl) ?_
      refine q_is rfl rfl (does_assign (u := (Iv (((s.2 + 1) + 1) + 1))) (ev rfl)) (by dsimp only [List.set]; try rfl) ?_
      refine wpList_nil (hK12 _ _ ?_)
      refine wp_region_lit ?_
      refine q_is rfl rfl (does_move (u := (Iv (s.1 : Int))) (ev rfl)) (by dsimp only [List.set]; try rfl) ?_
      refine q_is rfl rfl (does_iarith (p := (s.1 : Int)) (q := 1) (r := (s.1 : Int) + 1) (ev rfl) (ev rfl) (.inl ⟨rfl, (in_i64 (by omega) (by omega)).symm⟩)) (by dsimp only [List.set]; try rfl) ?_
      refine q_is rfl rfl (does_assign (u := (Iv ((s.1 : Int) + 1))) (ev rfl)) (by dsimp only [List.set]; try rfl) ?_
      refine wpList_nil ?_
      refine ⟨(s.1 + 1, ((s.2 + 1) + 1) + 1), ⟨fun t => (([(.slice (some ⟨g, 0, none⟩) n cap), (Iv (((s.2 + 1) + 1) + 1)), Ud, Ud, (Iv 0), (Iv ((s.1 : Int) + 1)), (Iv (s.1 : Int)), (.slice (some ⟨g, 0, none⟩) n cap), (Iv (n : Int)), (Bo (icmp .lss (s.1 : Int) (n : Int))), (Iv (s.1 : Int)), (Iv ((s.1 : Int) + 1)), (.slice (some ⟨g, 0, none⟩) n cap), (Iv (s.1 : Int)), (Iv s.2), (Fl (FloatKind.f32.nearest s.2)), (Pt g (s.1 * 3)), (Pt g (s.1 * 3)), (Iv s.2), (Iv (s.2 + 1)), (.slice (some ⟨g, 0, none⟩) n cap), (Iv (s.1 : Int)), (Iv (s.2 + 1)), (Fl (FloatKind.f32.nearest (s.2 + 1))), (Pt g (s.1 * 3)), (Pt g (s.1 * 3 + 1)), (Iv (s.2 + 1)), (Iv ((s.2 + 1) + 1)), (.slice (some ⟨g, 0, none⟩) n cap), (Iv (s.1 : Int)), (Iv ((s.2 + 1) + 1)), (Fl (FloatKind.f32.nearest ((s.2 + 1) + 1))), (Pt g (s.1 * 3)), (Pt g (s.1 * 3 + 2)), (Iv ((s.2 + 1) + 1)), (Iv (((s.2 + 1) + 1) + 1)), Ud] : List Value)[t]?).getD undef, ?_, (KpL.more (KpL.more (KpL.more E6 (KpL.of_wr W14) (allS (.inl (by simp)) all0)) (KpL.of_wr W20) (allS (.inl (by simp)) all0)) (KpL.of_wr W26) (allS (.inl (by simp)) all0)), (Mk.cast hM27 (by (try dsimp only); omega)), ?_⟩, ?_⟩
      · first | rfl | (simp only [Int.natCast_add, Int.natCast_one]; rfl)
      · (try dsimp only); exact ⟨by omega, by omega⟩
      · (try dsimp only); omega
    have c11' := c11
    (try simp only [icmp, Bool.and_eq_true, Bool.or_eq_true, Bool.and_eq_false_iff, Bool.or_eq_false_iff, Bool.not_eq_true', Bool.not_eq_false', decide_eq_true_eq, decide_eq_false_iff_not, beq_iff_eq, bne_iff_ne, beq_eq_false_iff_ne, bne_eq_false_iff_eq] at c11')
    refine wp_exit ?_
    refine hK2 _ _ ?_
    refine wp_seq_k fun K30 hK30 => ?_
    refine wp_region_lit ?_
    refine q_is rfl rfl (does_move (u := (Iv s.2)) (ev rfl)) (by dsimp only [List.set]; try rfl) ?_
    refine q_is rfl rfl (does_assign (u := (Iv s.2)) (ev rfl)) (by dsimp only [List.set]; try rfl) ?_
    refine wpList_nil (hK30 _ _ ?_)
    refine wp_ret ?_
    refine ret_valK (v := (Iv s.2)) (res_T rfl (slot rfl)) X8 ?_
    have hj : s.1 = n := by omega
    exact ⟨by first | rfl | (show Value.int _ _ = Value.int _ _; congr 1; omega), Mk.cast hF7 (by rw [hj])⟩

theorem c_laws_markVectorS (a : Value) (n : Nat) (L : List Nat) (B : Nat) (k : Int) (w : World) (ha : WL 3 B w L a n) (h0 : 0 ≤ k) (h1 : k + (n : Int) * 3 ≤ 4611686018427387904) : GivesK L Try.prog 21 #[a, Iv k] w (fun v w' => v = Iv (k + (n : Int) * 3) ∧ Hang B w' (fun u => Sl RV3 3 u a (mkL fV 3 k n))) := by
  obtain ⟨hL, ⟨rfl, rfl, rfl⟩ | ⟨g, cap, cs, rfl, rfl, hB, hn, hc⟩⟩ := ha
  · exact (Gives.toK (c_laws_markVectorS_nil k w)).mono fun v w' hv => ⟨by rw [hv]; simp, fun u _ => Sl_mk0 u⟩
  · exact (c_laws_markVectorS_blk g cs.length n cap k w (Mk.zero hB rfl) hn h0 h1).mono fun v w' ⟨hv, hM⟩ => ⟨hv, Mk.hang hM (hL g (by simp)).1 hc (by decide) (by omega) rV⟩

theorem c_laws_markVectorS_mk (a : Value) (n : Nat) (L : List Nat) (B : Nat) (k : Int) (w : World) (ha : WL 3 B w L a n) (h0 : 0 ≤ k) (h1 : k + (n : Int) * 3 ≤ 4611686018427387904) : GivesK L Try.prog 21 #[a, Iv k] w (fun v w' => v = Iv (k + (n : Int) * 3) ∧ MkS true 3 k w' L a n) := by
  obtain ⟨hL, ⟨rfl, rfl, rfl⟩ | ⟨g, cap, cs, rfl, rfl, hB, hn, hc⟩⟩ := ha
  · exact (Gives.toK (c_laws_markVectorS_nil k w)).mono fun v w' hv => ⟨by rw [hv]; simp, .inl ⟨rfl, rfl, rfl⟩⟩
  · exact (c_laws_markVectorS_blk g cs.length n cap k w (Mk.zero hB rfl) hn h0 h1).mono fun v w' ⟨hv, hM⟩ => ⟨hv, .inr ⟨g, cap, cs.length, rfl, rfl, hM, hc⟩⟩

theorem c_laws_markInt64S_nil (k : Int) (w : World) : Gives Try.prog 35 #[.slice none 0 0, Iv k] w (fun v _ => v = Iv k) := by
  refine enter [(.slice none 0 0), (Iv k), Ud, Ud, Ud, Ud, Ud, Ud, Ud, Ud, Ud, Ud, Ud, Ud, Ud, Ud, Ud, Ud, Ud] Try.func35 rfl Try.ntmps35 rfl ?_
  refine wp_seq_k fun K1 hK1 => ?_
  refine wp_region_lit ?_
  refine q_is (l' := [(.slice none 0 0), (Iv k), Ud, Ud, (Iv 0), Ud, Ud, Ud, Ud, Ud, Ud, Ud, Ud, Ud, Ud, Ud, Ud, Ud, Ud]) rfl rfl (does_assign (u := (Iv 0)) (ev rfl)) rfl ?_
  refine wpList_nil (hK1 _ _ ?_)
  refine wp_seq_k fun K2 hK2 => ?_
  refine wp_seq_k fun K3 hK3 => ?_
  refine wp_region_lit ?_
  refine q_is (l' := [(.slice none 0 0), (Iv k), Ud, Ud, (Iv 0), (Iv 0), Ud, Ud, Ud, Ud, Ud, Ud, Ud, Ud, Ud, Ud, Ud, Ud, Ud]) rfl rfl (does_assign (u := (Iv 0)) (ev rfl)) rfl ?_
  refine wpList_nil (hK3 _ _ ?_)
  refine wp_block ?_
  refine loop_unroll 1 ?_
  refine un_step ?_
  refine wp_seq_k fun K4 hK4 => ?_
  refine wp_seq_k fun K5 hK5 => ?_
  refine wp_region_lit ?_
  refine q_is (l' := [(.slice none 0 0), (Iv k), Ud, Ud, (Iv 0), (Iv 0), (Iv 0), Ud, Ud, Ud, Ud, Ud, Ud, Ud, Ud, Ud, Ud, Ud, Ud]) rfl rfl (does_move (u := (Iv 0)) (ev rfl)) rfl ?_
  refine q_is (l' := [(.slice none 0 0), (Iv k), Ud, Ud, (Iv 0), (Iv 0), (Iv 0), (.slice none 0 0), Ud, Ud, Ud, Ud, Ud, Ud, Ud, Ud, Ud, Ud, Ud]) rfl rfl (does_move (u := (.slice none 0 0)) (ev rfl)) rfl ?_
  refine q_is (l' := [(.slice none 0 0), (Iv k), Ud, Ud, (Iv 0), (Iv 0), (Iv 0), (.slice none 0 0), (Iv 0), Ud, Ud, Ud, Ud, Ud, Ud, Ud, Ud, Ud, Ud]) rfl rfl (does_len_slice Try.underlying40 (ev rfl)) rfl ?_
  refine q_is (l' := [(.slice none 0 0), (Iv k), Ud, Ud, (Iv 0), (Iv 0), (Iv 0), (.slice none 0 0), (Iv 0), (Bo false), Ud, Ud, Ud, Ud, Ud, Ud, Ud, Ud, Ud]) rfl rfl (does_icmp (p := 0) (q := 0) (.inr (.inr (.inl rfl))) (ev rfl) (ev rfl)) rfl ?_
  refine wpList_nil (hK5 _ _ ?_)
  refine wp_cond_false (ev rfl) ?_
  refine wp_exit ?_
  refine hK2 _ _ ?_
  refine wp_seq_k fun K6 hK6 => ?_
  refine wp_region_lit ?_
  refine q_is (l' := [(.slice none 0 0), (Iv k), Ud, Ud, (Iv 0), (Iv 0), (Iv 0), (.slice none 0 0), (Iv 0), (Bo false), Ud, Ud, Ud, Ud, Ud, Ud, Ud, Ud, (Iv k)]) rfl rfl (does_move (u := (Iv k)) (ev rfl)) rfl ?_
  refine q_is (l' := [(.slice none 0 0), (Iv k), Ud, Ud, (Iv k), (Iv 0), (Iv 0), (.slice none 0 0), (Iv 0), (Bo false), Ud, Ud, Ud, Ud, Ud, Ud, Ud, Ud, (Iv k)]) rfl rfl (does_assign (u := (Iv k)) (ev rfl)) rfl ?_
  refine wpList_nil (hK6 _ _ ?_)
  refine wp_ret ?_
  refine ret_val (v := (Iv k)) (res_T rfl (slot rfl)) (Ext.refl w) ?_
  have x7 : (k : Int) = k := by first | with_reducible rfl | (simp only []; done) | (simp []; done) | rfl
  exact (by first | with_reducible rfl | rw [x7] | rfl)

theorem c_laws_markInt64S_blk (g N n cap : Nat) (k : Int) (w : World) (hM : Mk false k w g N 0) (hn : n * 1 ≤ N) (h0 : 0 ≤ k) (h1 : k + (n : Int) * 1 ≤ 4611686018427387904) : GivesK [g] Try.prog 35 #[.slice (some ⟨g, 0, none⟩) n cap, Iv k] w (fun v w' => v = Iv (k + (n : Int) * 1) ∧ Mk false k w' g N (n * 1)) := by
  refine enterK [(.slice (some ⟨g, 0, none⟩) n cap), (Iv k), Ud, Ud, Ud, Ud, Ud, Ud, Ud, Ud, Ud, Ud, Ud, Ud, Ud, Ud, Ud, Ud, Ud] Try.func35 rfl Try.ntmps35 rfl ?_
  refine wp_seq_k fun K1 hK1 => ?_
  refine wp_region_lit ?_
  refine q_is (l' := [(.slice (some ⟨g, 0, none⟩) n cap), (Iv k), Ud, Ud, (Iv 0), Ud, Ud, Ud, Ud, Ud, Ud, Ud, Ud, Ud, Ud, Ud, Ud, Ud, Ud]) rfl rfl (does_assign (u := (Iv 0)) (ev rfl)) rfl ?_
  refine wpList_nil (hK1 _ _ ?_)
  refine wp_seq_k fun K2 hK2 => ?_
  refine wp_seq_k fun K3 hK3 => ?_
  refine wp_region_lit ?_
  refine q_is (l' := [(.slice (some ⟨g, 0, none⟩) n cap), (Iv k), Ud, Ud, (Iv 0), (Iv 0), Ud, Ud, Ud, Ud, Ud, Ud, Ud, Ud, Ud, Ud, Ud, Ud, Ud]) rfl rfl (does_assign (u := (Iv 0)) (ev rfl)) rfl ?_
  refine wpList_nil (hK3 _ _ ?_)
  refine wp_block ?_
  refine loop_ghost (σ := Nat × Int) (fun s a w' => ∃ u4 : Nat → Value, a = fr [(.slice (some ⟨g, 0, none⟩) n cap), (Iv s.2), Ud, Ud, (Iv 0), (Iv (s.1 : Int)), (u4 6), (u4 7), (u4 8), (u4 9), (u4 10), (u4 11), (u4 12), (u4 13), (u4 14), (u4 15), (u4 16), (u4 17), Ud] ∧ KpL [g] w w' ∧ Mk false k w' g N (s.1 * 1) ∧ (s.1 ≤ n ∧ s.2 = k + (s.1 : Int) * 1)) (fun s => n - s.1) (0, k) ?_ ?_
  · refine ⟨fun t => (([(.slice (some ⟨g, 0, none⟩) n cap), (Iv k), Ud, Ud, (Iv 0), (Iv 0), Ud, Ud, Ud, Ud, Ud, Ud, Ud, Ud, Ud, Ud, Ud, Ud, Ud] : List Value)[t]?).getD undef, rfl, KpL.refl _ _, (Mk.cast hM (by simp)), ?_⟩
    exact ⟨Nat.zero_le _, by simp⟩
  · rintro s a w5 ⟨u4, rfl, E6, hF7, ⟨hk, hn2⟩⟩
    have X8 := KpL.more (KpL.refl [g] w) E6 (allS (.inl (by simp)) all0)
    refine wp_seq_k fun K9 hK9 => ?_
    refine wp_seq_k fun K10 hK10 => ?_
    refine wp_region_lit ?_
    refine q_is (l' := [(.slice (some ⟨g, 0, none⟩) n cap), (Iv s.2), Ud, Ud, (Iv 0), (Iv (s.1 : Int)), (Iv (s.1 : Int)), (u4 7), (u4 8), (u4 9), (u4 10), (u4 11), (u4 12), (u4 13), (u4 14), (u4 15), (u4 16), (u4 17), Ud]) rfl rfl (does_move (u := (Iv (s.1 : Int))) (ev rfl)) rfl ?_
    refine q_is (l' := [(.slice (some ⟨g, 0, none⟩) n cap), (Iv s.2), Ud, Ud, (Iv 0), (Iv (s.1 : Int)), (Iv (s.1 : Int)), (.slice (some ⟨g, 0, none⟩) n cap), (u4 8), (u4 9), (u4 10), (u4 11), (u4 12), (u4 13), (u4 14), (u4 15), (u4 16), (u4 17), Ud]) rfl rfl (does_move (u := (.slice (some ⟨g, 0, none⟩) n cap)) (ev rfl)) rfl ?_
    refine q_is (l' := [(.slice (some ⟨g, 0, none⟩) n cap), (Iv s.2), Ud, Ud, (Iv 0), (Iv (s.1 : Int)), (Iv (s.1 : Int)), (.slice (some ⟨g, 0, none⟩) n cap), (Iv (n : Int)), (u4 9), (u4 10), (u4 11), (u4 12), (u4 13), (u4 14), (u4 15), (u4 16), (u4 17), Ud]) rfl rfl (does_len_slice Try.underlying40 (ev rfl)) rfl ?_
    refine q_is (l' := [(.slice (some ⟨g, 0, none⟩) n cap), (Iv s.2), Ud, Ud, (Iv 0), (Iv (s.1 : Int)), (Iv (s.1 : Int)), (.slice (some ⟨g, 0, none⟩) n cap), (Iv (n : Int)), (Bo (icmp .lss (s.1 : Int) (n : Int))), (u4 10), (u4 11), (u4 12), (u4 13), (u4 14), (u4 15), (u4 16), (u4 17), Ud]) rfl rfl (does_icmp (p := (s.1 : Int)) (q := (n : Int)) (.inr (.inr (.inl rfl))) (ev rfl) (ev rfl)) rfl ?_
    refine wpList_nil (hK10 _ _ ?_)
    refine wp_cond_split (t := icmp .lss (s.1 : Int) (n : Int)) (ev rfl) (fun c11 => ?_) (fun c11 => ?_)
    · have c11' := c11
      (try simp only [icmp, Bool.and_eq_true, Bool.or_eq_true, Bool.and_eq_false_iff, Bool.or_eq_false_iff, Bool.not_eq_true', Bool.not_eq_false', decide_eq_true_eq, decide_eq_false_iff_not, beq_iff_eq, bne_iff_ne, beq_eq_false_iff_ne, bne_eq_false_iff_eq] at c11')
      refine wp_skip (hK9 _ _ ?_)
      refine wp_seq_k fun K12 hK12 => ?_
      refine wp_block ?_
      refine wp_seq_k fun K13 hK13 => ?_
      refine wp_region_lit ?_
      refine q_is (l' := [(.slice (some ⟨g, 0, none⟩) n cap), (Iv s.2), Ud, Ud, (Iv 0), (Iv (s.1 : Int)), (Iv (s.1 : Int)), (.slice (some ⟨g, 0, none⟩) n cap), (Iv (n : Int)), (Bo (icmp .lss (s.1 : Int) (n : Int))), (u4 10), (u4 11), (.slice (some ⟨g, 0, none⟩) n cap), (u4 13), (u4 14), (u4 15), (u4 16), (u4 17), Ud]) rfl rfl (does_move (u := (.slice (some ⟨g, 0, none⟩) n cap)) (ev rfl)) rfl ?_
      refine q_is (l' := [(.slice (some ⟨g, 0, none⟩) n cap), (Iv s.2), Ud, Ud, (Iv 0), (Iv (s.1 : Int)), (Iv (s.1 : Int)), (.slice (some ⟨g, 0, none⟩) n cap), (Iv (n : Int)), (Bo (icmp .lss (s.1 : Int) (n : Int))), (u4 10), (u4 11), (.slice (some ⟨g, 0, none⟩) n cap), (Iv (s.1 : Int)), (u4 14), (u4 15), (u4 16), (u4 17), Ud]) rfl rfl (does_move (u := (Iv (s.1 : Int))) (ev rfl)) rfl ?_
      refine q_is (l' := [(.slice (some ⟨g, 0, none⟩) n cap), (Iv s.2), Ud, Ud, (Iv 0), (Iv (s.1 : Int)), (Iv (s.1 : Int)), (.slice (some ⟨g, 0, none⟩) n cap), (Iv (n : Int)), (Bo (icmp .lss (s.1 : Int) (n : Int))), (u4 10), (u4 11), (.slice (some ⟨g, 0, none⟩) n cap), (Iv (s.1 : Int)), (Iv s.2), (u4 15), (u4 16), (u4 17), Ud]) rfl rfl (does_move (u := (Iv s.2)) (ev rfl)) rfl ?_
      refine q_is (l' := [(.slice (some ⟨g, 0, none⟩) n cap), (Iv s.2), Ud, Ud, (Iv 0), (Iv (s.1 : Int)), (Iv (s.1 : Int)), (.slice (some ⟨g, 0, none⟩) n cap), (Iv (n : Int)), (Bo (icmp .lss (s.1 : Int) (n : Int))), (u4 10), (u4 11), (.slice (some ⟨g, 0, none⟩) n cap), (Iv (s.1 : Int)), (Iv s.2), (Pt g (s.1 * 1)), (u4 16), (u4 17), Ud]) rfl rfl (does_indexOwn (b := g) (n := n) (i := (s.1 : Int)) Try.underlying40 Try.sizeOf2 (ev rfl) (ev rfl) (by omega) (by omega)) rfl ?_
      refine seqn rfl rfl (does_mark (fl := false) (k := k) (N := N) (off := s.1 * 1) (j := s.1 * 1) (u := (Iv s.2)) (ev rfl) (ev rfl) Try.sizeOf2 (mkc_i (by omega)) (by omega) (by omega) hF7) ?_; rintro _ w16 ⟨rfl, W14, hM15⟩
      have X17 := KpL.more X8 (KpL.of_wr W14) (allS (.inl (by simp)) all0)
      refine wpList_nil (hK13 _ _ ?_)
      refine wp_region_lit ?_
      refine q_is (l' := [(.slice (some ⟨g, 0, none⟩) n cap), (Iv s.2), Ud, Ud, (Iv 0), (Iv (s.1 : Int)), (Iv (s.1 : Int)), (.slice (some ⟨g, 0, none⟩) n cap), (Iv (n : Int)), (Bo (icmp .lss (s.1 : Int) (n : Int))), (u4 10), (u4 11), (.slice (some ⟨g, 0, none⟩) n cap), (Iv (s.1 : Int)), (Iv s.2), (Pt g (s.1 * 1)), (Iv s.2), (u4 17), Ud]) rfl rfl (does_move (u := (Iv s.2)) (ev rfl)) rfl ?_
      refine q_is (l' := [(.slice (some ⟨g, 0, none⟩) n cap), (Iv s.2), Ud, Ud, (Iv 0), (Iv (s.1 : Int)), (Iv (s.1 : Int)), (.slice (some ⟨g, 0, none⟩) n cap), (Iv (n : Int)), (Bo (icmp .lss (s.1 : Int) (n : Int))), (u4 10), (u4 11), (.slice (some ⟨g, 0, none⟩) n cap), (Iv (s.1 : Int)), (Iv s.2), (Pt g (s.1 * 1)), (Iv s.2), (Iv (s.2 + 1)), Ud]) rfl rfl (does_iarith (p := s.2) (q := 1) (r := s.2 + 1) (ev rfl) (ev rfl) (.inl ⟨rfl, (in_i64 (by omega) (by omega)).symm⟩)) rfl ?_
      refine q_is (l' := [(.slice (some ⟨g, 0, none⟩) n cap), (Iv (s.2 + 1)), Ud, Ud, (Iv 0), (Iv (s.1 : Int)), (Iv (s.1 : Int)), (.slice (some ⟨g, 0, none⟩) n cap), (Iv (n : Int)), (Bo (icmp .lss (s.1 : Int) (n : Int))), (u4 10), (u4 11), (.slice (some ⟨g, 0, none⟩) n cap), (Iv (s.1 : Int)), (Iv s.2), (Pt g (s.1 * 1)), (Iv s.2), (Iv (s.2 + 1)), Ud]) rfl rfl (does_assign (u := (Iv (s.2 + 1))) (ev rfl)) rfl ?_
      refine wpList_nil (hK12 _ _ ?_)
      refine wp_region_lit ?_
      refine q_is (l' := [(.slice (some ⟨g, 0, none⟩) n cap), (Iv (s.2 + 1)), Ud, Ud, (Iv 0), (Iv (s.1 : Int)), (Iv (s.1 : Int)), (.slice (some ⟨g, 0, none⟩) n cap), (Iv (n : Int)), (Bo (icmp .lss (s.1 : Int) (n : Int))), (Iv (s.1 : Int)), (u4 11), (.slice (some ⟨g, 0, none⟩) n cap), (Iv (s.1 : Int)), (Iv s.2), (Pt g (s.1 * 1)), (Iv s.2), (Iv (s.2 + 1)), Ud]) rfl rfl (does_move (u := (Iv (s.1 : Int))) (ev rfl)) rfl ?_
      refine q_is (l' := [(.slice (some ⟨g, 0, none⟩) n cap), (Iv (s.2 + 1)), Ud, Ud, (Iv 0), (Iv (s.1 : Int)), (Iv (s.1 : Int)), (.slice (some ⟨g, 0, none⟩) n cap), (Iv (n : Int)), (Bo (icmp .lss (s.1 : Int) (n : Int))), (Iv (s.1 : Int)), (Iv ((s.1 : Int) + 1)), (.slice (some ⟨g, 0, none⟩) n cap), (Iv (s.1 : Int)), (Iv s.2), (Pt g (s.1 * 1)), (Iv s.2), (Iv (s.2 + 1)), Ud]) rfl rfl (does_iarith (p := (s.1 : Int)) (q := 1) (r := (s.1 : Int) + 1) (ev rfl) (ev rfl) (.inl ⟨rfl, (in_i64 (by omega) (by omega)).symm⟩)) rfl ?_
      refine q_is (l' := [(.slice (some ⟨g, 0, none⟩) n cap), (Iv (s.2 + 1)), Ud, Ud, (Iv 0), (Iv ((s.1 : Int) + 1)), (Iv (s.1 : Int)), (.slice (some ⟨g, 0, none⟩) n cap), (Iv (n : Int)), (Bo (icmp .lss (s.1 : Int) (n : Int))), (Iv (s.1 : Int)), (Iv ((s.1 : Int) + 1)), (.slice (some ⟨g, 0, none⟩) n cap), (Iv (s.1 : Int)), (Iv s.2), (Pt g (s.1 * 1)), (Iv s.2), (Iv (s.2 + 1)), Ud]) rfl rfl (does_assign (u := (Iv ((s.1 : Int) + 1))) (ev rfl)) rfl ?_
      refine wpList_nil ?_
      refine ⟨(s.1 + 1, s.2 + 1), ⟨fun t => (([(.slice (some ⟨g, 0, none⟩) n cap), (Iv (s.2 + 1)), Ud, Ud, (Iv 0), (Iv ((s.1 : Int) + 1)), (Iv (s.1 : Int)), (.slice (some ⟨g, 0, none⟩) n cap), (Iv (n : Int)), (Bo (icmp .lss (s.1 : Int) (n : Int))), (Iv (s.1 : Int)), (Iv ((s.1 : Int) + 1)), (.slice (some ⟨g, 0, none⟩) n cap), (Iv (s.1 : Int)), (Iv s.2), (Pt g (s.1 * 1)), (Iv s.2), (Iv (s.2 + 1)), Ud] : List Value)[t]?).getD undef, ?_, (KpL.more E6 (KpL.of_wr W14) (allS (.inl (by simp)) all0)), (Mk.cast hM15 (by (try dsimp only); omega)), ?_⟩, ?_⟩
      · first | rfl | (simp only [Int.natCast_add, Int.natCast_one]; rfl)
      · (try dsimp only); exact ⟨by omega, by omega⟩
      · (try dsimp only); omega
    have c11' := c11
    (try simp only [icmp, Bool.and_eq_true, Bool.or_eq_true, Bool.and_eq_false_iff, Bool.or_eq_false_iff, Bool.not_eq_true', Bool.not_eq_false', decide_eq_true_eq, decide_eq_false_iff_not, beq_iff_eq, bne_iff_ne, beq_eq_false_iff_ne, bne_eq_false_iff_eq] at c11')
    refine wp_exit ?_
    refine hK2 _ _ ?_
    refine wp_seq_k fun K18 hK18 => ?_
    refine wp_region_lit ?_
    refine q_is (l' := [(.slice (some ⟨g, 0, none⟩) n cap), (Iv s.2), Ud, Ud, (Iv 0), (Iv (s.1 : Int)), (Iv (s.1 : Int)), (.slice (some ⟨g, 0, none⟩) n cap), (Iv (n : Int)), (Bo (icmp .lss (s.1 : Int) (n : Int))), (u4 10), (u4 11), (u4 12), (u4 13), (u4 14), (u4 15), (u4 16), (u4 17), (Iv s.2)]) rfl rfl (does_move (u := (Iv s.2)) (ev rfl)) rfl ?_
    refine q_is (l' := [(.slice (some ⟨g, 0, none⟩) n cap), (Iv s.2), Ud, Ud, (Iv s.2), (Iv (s.1 : Int)), (Iv (s.1 : Int)), (.slice (some ⟨g, 0, none⟩) n cap), (Iv (n : Int)), (Bo (icmp .lss (s.1 : Int) (n : Int))), (u4 10), (u4 11), (u4 12), (u4 13), (u4 14), (u4 15), (u4 16), (u4 17), (Iv s.2)]) rfl rfl (does_assign (u := (Iv s.2)) (ev rfl)) rfl ?_
    refine wpList_nil (hK18 _ _ ?_)
    refine wp_ret ?_
    refine ret_valK (v := (Iv s.2)) (res_T rfl (slot rfl)) X8 ?_
    have hj : s.1 = n := by omega
    exact ⟨by first | rfl | (show Value.int _ _ = Value.int _ _; congr 1; omega), Mk.cast hF7 (by rw [hj])⟩

theorem c_laws_markInt64S (a : Value) (n : Nat) (L : List Nat) (B : Nat) (k : Int) (w : World) (ha : WL 1 B w L a n) (h0 : 0 ≤ k) (h1 : k + (n : Int) * 1 ≤ 4611686018427387904) : GivesK L Try.prog 35 #[a, Iv k] w (fun v w' => v = Iv (k + (n : Int) * 1) ∧ Hang B w' (fun u => Sl RI 1 u a (mkL fI 1 k n))) := by
  obtain ⟨hL, ⟨rfl, rfl, rfl⟩ | ⟨g, cap, cs, rfl, rfl, hB, hn, hc⟩⟩ := ha
  · exact (Gives.toK (c_laws_markInt64S_nil k w)).mono fun v w' hv => ⟨by rw [hv]; simp, fun u _ => Sl_mk0 u⟩
  · exact (c_laws_markInt64S_blk g cs.length n cap k w (Mk.zero hB rfl) hn h0 h1).mono fun v w' ⟨hv, hM⟩ => ⟨hv, Mk.hang hM (hL g (by simp)).1 hc (by decide) (by omega) rI⟩

theorem c_laws_markInt64S_mk (a : Value) (n : Nat) (L : List Nat) (B : Nat) (k : Int) (w : World) (ha : WL 1 B w L a n) (h0 : 0 ≤ k) (h1 : k + (n : Int) * 1 ≤ 4611686018427387904) : GivesK L Try.prog 35 #[a, Iv k] w (fun v w' => v = Iv (k + (n : Int) * 1) ∧ MkS false 1 k w' L a n) := by
  obtain ⟨hL, ⟨rfl, rfl, rfl⟩ | ⟨g, cap, cs, rfl, rfl, hB, hn, hc⟩⟩ := ha
  · exact (Gives.toK (c_laws_markInt64S_nil k w)).mono fun v w' hv => ⟨by rw [hv]; simp, .inl ⟨rfl, rfl, rfl⟩⟩
  · exact (c_laws_markInt64S_blk g cs.length n cap k w (Mk.zero hB rfl) hn h0 h1).mono fun v w' ⟨hv, hM⟩ => ⟨hv, .inr ⟨g, cap, cs.length, rfl, rfl, hM, hc⟩⟩

theorem c_laws_markInt64SS (a : Value) (xs : List (List Int)) (L : List Nat) (B : Nat) (k : Int) (w : World) (ha : WLL 1 B w L a xs) (h0 : 0 ≤ k) (h1 : k + (liSum xs xs.length : Nat) ≤ 4611686018427387904) : GivesK L Try.prog 22 #[a, Iv k] w (fun v w' => v = Iv (k + (liSum xs xs.length : Nat)) ∧ Hang B w' (fun u => Sl (RS RI 1) 1 u a (mkLL fI 1 (preK k xs) xs))) := by
  obtain ⟨vs, Ls, hst0⟩ := NMk.start (fl := false) ha
  replace hst0 := hst0 (preK k xs)
  obtain ⟨pa, qa, rfl⟩ := WLL.shape ha
  have hvl := hst0.len
  have hxm := hst0.most
  refine enterK [(.slice pa xs.length qa), (Iv k), Ud, Ud, Ud, Ud, Ud, Ud, Ud, Ud, Ud, Ud, Ud, Ud, Ud, Ud, Ud, Ud, Ud] Try.func22 rfl Try.ntmps22 rfl ?_
  refine wp_seq_k fun K1 hK1 => ?_
  refine wp_region_lit ?_
  refine q_is (l' := [(.slice pa xs.length qa), (Iv k), Ud, Ud, (Iv 0), Ud, Ud, Ud, Ud, Ud, Ud, Ud, Ud, Ud, Ud, Ud, Ud, Ud, Ud]) rfl rfl (does_assign (u := (Iv 0)) (ev rfl)) rfl ?_
  refine wpList_nil (hK1 _ _ ?_)
  refine wp_seq_k fun K2 hK2 => ?_
  refine wp_seq_k fun K3 hK3 => ?_
  refine wp_region_lit ?_
  refine q_is (l' := [(.slice pa xs.length qa), (Iv k), Ud, Ud, (Iv 0), (Iv 0), Ud, Ud, Ud, Ud, Ud, Ud, Ud, Ud, Ud, Ud, Ud, Ud, Ud]) rfl rfl (does_assign (u := (Iv 0)) (ev rfl)) rfl ?_
  refine wpList_nil (hK3 _ _ ?_)
  refine wp_block ?_
  refine loop_ghost (σ := Nat × Int) (fun s a w' => ∃ u4 : Nat → Value, a = fr [(.slice pa xs.length qa), (Iv s.2), Ud, Ud, (Iv 0), (Iv (s.1 : Int)), (u4 6), (u4 7), (u4 8), (u4 9), (u4 10), (u4 11), (u4 12), (u4 13), (u4 14), (u4 15), (u4 16), (u4 17), Ud] ∧ KpL L w w' ∧ NMk false 1 B L (.slice pa xs.length qa) vs Ls xs (preK k xs) s.1 w' ∧ (s.1 ≤ xs.length ∧ s.2 = k + (liSum xs s.1 : Nat))) (fun s => xs.length - s.1) (0, k) ?_ ?_
  · refine ⟨fun t => (([(.slice pa xs.length qa), (Iv k), Ud, Ud, (Iv 0), (Iv 0), Ud, Ud, Ud, Ud, Ud, Ud, Ud, Ud, Ud, Ud, Ud, Ud, Ud] : List Value)[t]?).getD undef, rfl, KpL.refl _ _, hst0, ?_⟩
    exact ⟨Nat.zero_le _, by simp [liSum]⟩
  · rintro s a w5 ⟨u4, rfl, E6, hst, ⟨hk, hn2⟩⟩
    have X8 := KpL.more (KpL.refl L w) E6 (fun c hc => .inl (by simp [hc]))
    refine wp_seq_k fun K9 hK9 => ?_
    refine wp_seq_k fun K10 hK10 => ?_
    refine wp_region_lit ?_
    refine q_is (l' := [(.slice pa xs.length qa), (Iv s.2), Ud, Ud, (Iv 0), (Iv (s.1 : Int)), (Iv (s.1 : Int)), (u4 7), (u4 8), (u4 9), (u4 10), (u4 11), (u4 12), (u4 13), (u4 14), (u4 15), (u4 16), (u4 17), Ud]) rfl rfl (does_move (u := (Iv (s.1 : Int))) (ev rfl)) rfl ?_
    refine q_is (l' := [(.slice pa xs.length qa), (Iv s.2), Ud, Ud, (Iv 0), (Iv (s.1 : Int)), (Iv (s.1 : Int)), (.slice pa xs.length qa), (u4 8), (u4 9), (u4 10), (u4 11), (u4 12), (u4 13), (u4 14), (u4 15), (u4 16), (u4 17), Ud]) rfl rfl (does_move (u := (.slice pa xs.length qa)) (ev rfl)) rfl ?_
    refine q_is (l' := [(.slice pa xs.length qa), (Iv s.2), Ud, Ud, (Iv 0), (Iv (s.1 : Int)), (Iv (s.1 : Int)), (.slice pa xs.length qa), (Iv (xs.length : Int)), (u4 9), (u4 10), (u4 11), (u4 12), (u4 13), (u4 14), (u4 15), (u4 16), (u4 17), Ud]) rfl rfl (does_len_slice Try.underlying23 (ev rfl)) rfl ?_
    refine q_is (l' := [(.slice pa xs.length qa), (Iv s.2), Ud, Ud, (Iv 0), (Iv (s.1 : Int)), (Iv (s.1 : Int)), (.slice pa xs.length qa), (Iv (xs.length : Int)), (Bo (icmp .lss (s.1 : Int) (xs.length : Int))), (u4 10), (u4 11), (u4 12), (u4 13), (u4 14), (u4 15), (u4 16), (u4 17), Ud]) rfl rfl (does_icmp (p := (s.1 : Int)) (q := (xs.length : Int)) (.inr (.inr (.inl rfl))) (ev rfl) (ev rfl)) rfl ?_
    refine wpList_nil (hK10 _ _ ?_)
    refine wp_cond_split (t := icmp .lss (s.1 : Int) (xs.length : Int)) (ev rfl) (fun c11 => ?_) (fun c11 => ?_)
    · have c11' := c11
      (try simp only [icmp, Bool.and_eq_true, Bool.or_eq_true, Bool.and_eq_false_iff, Bool.or_eq_false_iff, Bool.not_eq_true', Bool.not_eq_false', decide_eq_true_eq, decide_eq_false_iff_not, beq_iff_eq, bne_iff_ne, beq_eq_false_iff_ne, bne_eq_false_iff_eq] at c11')
      refine wp_skip (hK9 _ _ ?_)
      refine wp_seq_k fun K12 hK12 => ?_
      refine wp_block ?_
      refine wp_region_lit ?_
      refine q_is (l' := [(.slice pa xs.length qa), (Iv s.2), Ud, Ud, (Iv 0), (Iv (s.1 : Int)), (Iv (s.1 : Int)), (.slice pa xs.length qa), (Iv (xs.length : Int)), (Bo (icmp .lss (s.1 : Int) (xs.length : Int))), (u4 10), (u4 11), (.slice pa xs.length qa), (u4 13), (u4 14), (u4 15), (u4 16), (u4 17), Ud]) rfl rfl (does_move (u := (.slice pa xs.length qa)) (ev rfl)) rfl ?_
      refine q_is (l' := [(.slice pa xs.length qa), (Iv s.2), Ud, Ud, (Iv 0), (Iv (s.1 : Int)), (Iv (s.1 : Int)), (.slice pa xs.length qa), (Iv (xs.length : Int)), (Bo (icmp .lss (s.1 : Int) (xs.length : Int))), (u4 10), (u4 11), (.slice pa xs.length qa), (Iv (s.1 : Int)), (u4 14), (u4 15), (u4 16), (u4 17), Ud]) rfl rfl (does_move (u := (Iv (s.1 : Int))) (ev rfl)) rfl ?_
      obtain ⟨x1, hx1⟩ : ∃ x, xs[s.1]? = some x := ⟨_, List.getElem?_eq_getElem (by omega)⟩
      have hss := liSum_succ hx1
      have hmo := liSum_mono xs (j := s.1 + 1) (k := xs.length) (by omega)
      obtain ⟨el1, hel1⟩ : ∃ e, vs[s.1]? = some e := ⟨_, List.getElem?_eq_getElem (by omega)⟩
      refine seqd rfl rfl (does_indexSl (R := RVl) (i := (s.1 : Int)) (xs := vs) (e := el1) Try.underlying23 Try.sizeOf40 (ev rfl) (ev rfl) (NMk.slv hst) (by omega) hel1) ?_; rintro _ w5 ⟨b13, o14, _, rfl, hc16, rfl, rfl⟩
      show wpList _ _ _ _ (fr [(.slice pa xs.length qa), (Iv s.2), Ud, Ud, (Iv 0), (Iv (s.1 : Int)), (Iv (s.1 : Int)), (.slice pa xs.length qa), (Iv (xs.length : Int)), (Bo (icmp .lss (s.1 : Int) (xs.length : Int))), (u4 10), (u4 11), (.slice pa xs.length qa), (Iv (s.1 : Int)), (Pt b13 o14), (u4 15), (u4 16), (u4 17), Ud]) _
      refine q_is (l' := [(.slice pa xs.length qa), (Iv s.2), Ud, Ud, (Iv 0), (Iv (s.1 : Int)), (Iv (s.1 : Int)), (.slice pa xs.length qa), (Iv (xs.length : Int)), (Bo (icmp .lss (s.1 : Int) (xs.length : Int))), (u4 10), (u4 11), (.slice pa xs.length qa), (Iv (s.1 : Int)), (Pt b13 o14), el1, (u4 16), (u4 17), Ud]) rfl rfl (does_load (u := el1) (ev rfl) Try.isAgg40 (Cells.at hc16 0 rfl)) rfl ?_
      refine q_is (l' := [(.slice pa xs.length qa), (Iv s.2), Ud, Ud, (Iv 0), (Iv (s.1 : Int)), (Iv (s.1 : Int)), (.slice pa xs.length qa), (Iv (xs.length : Int)), (Bo (icmp .lss (s.1 : Int) (xs.length : Int))), (u4 10), (u4 11), (.slice pa xs.length qa), (Iv (s.1 : Int)), (Pt b13 o14), el1, (Iv s.2), (u4 17), Ud]) rfl rfl (does_move (u := (Iv s.2)) (ev rfl)) rfl ?_
      refine seqd rfl rfl (does_callK (args := #[el1, (Iv s.2)]) cal35 (evs rfl) (c_laws_markInt64S_mk el1 x1.length (Ls s.1) B s.2 _ (hst.rest s.1 _ _ (Nat.le_refl _) hel1 hx1) (by omega) (by omega))) ?_; rintro _ w17 ⟨K18, rfl, hM19⟩
      have X20 := KpL.more X8 K18 (fun c hc => .inl (hst.sub _ c hc))
      show wpList _ _ _ _ (fr [(.slice pa xs.length qa), (Iv s.2), Ud, Ud, (Iv 0), (Iv (s.1 : Int)), (Iv (s.1 : Int)), (.slice pa xs.length qa), (Iv (xs.length : Int)), (Bo (icmp .lss (s.1 : Int) (xs.length : Int))), (u4 10), (u4 11), (.slice pa xs.length qa), (Iv (s.1 : Int)), (Pt b13 o14), el1, (Iv s.2), (Iv (s.2 + (x1.length : Int) * 1)), Ud]) _
      refine q_is (l' := [(.slice pa xs.length qa), (Iv (s.2 + (x1.length : Int) * 1)), Ud, Ud, (Iv 0), (Iv (s.1 : Int)), (Iv (s.1 : Int)), (.slice pa xs.length qa), (Iv (xs.length : Int)), (Bo (icmp .lss (s.1 : Int) (xs.length : Int))), (u4 10), (u4 11), (.slice pa xs.length qa), (Iv (s.1 : Int)), (Pt b13 o14), el1, (Iv s.2), (Iv (s.2 + (x1.length : Int) * 1)), Ud]) rfl rfl (does_assign (u := (Iv (s.2 + (x1.length : Int) * 1))) (ev rfl)) rfl ?_
      refine wpList_nil (hK12 _ _ ?_)
      refine wp_region_lit ?_
      refine q_is (l' := [(.slice pa xs.length qa), (Iv (s.2 + (x1.length : Int) * 1)), Ud, Ud, (Iv 0), (Iv (s.1 : Int)), (Iv (s.1 : Int)), (.slice pa xs.length qa), (Iv (xs.length : Int)), (Bo (icmp .lss (s.1 : Int) (xs.length : Int))), (Iv (s.1 : Int)), (u4 11), (.slice pa xs.length qa), (Iv (s.1 : Int)), (Pt b13 o14), el1, (Iv s.2), (Iv (s.2 + (x1.length : Int) * 1)), Ud]) rfl rfl (does_move (u := (Iv (s.1 : Int))) (ev rfl)) rfl ?_
      refine q_is (l' := [(.slice pa xs.length qa), (Iv (s.2 + (x1.length : Int) * 1)), Ud, Ud, (Iv 0), (Iv (s.1 : Int)), (Iv (s.1 : Int)), (.slice pa xs.length qa), (Iv (xs.length : Int)), (Bo (icmp .lss (s.1 : Int) (xs.length : Int))), (Iv (s.1 : Int)), (Iv ((s.1 : Int) + 1)), (.slice pa xs.length qa), (Iv (s.1 : Int)), (Pt b13 o14), el1, (Iv s.2), (Iv (s.2 + (x1.length : Int) * 1)), Ud]) rfl rfl (does_iarith (p := (s.1 : Int)) (q := 1) (r := (s.1 : Int) + 1) (ev rfl) (ev rfl) (.inl ⟨rfl, (in_i64 (by omega) (by omega)).symm⟩)) rfl ?_
      refine q_is (l' := [(.slice pa xs.length qa), (Iv (s.2 + (x1.length : Int) * 1)), Ud, Ud, (Iv 0), (Iv ((s.1 : Int) + 1)), (Iv (s.1 : Int)), (.slice pa xs.length qa), (Iv (xs.length : Int)), (Bo (icmp .lss (s.1 : Int) (xs.length : Int))), (Iv (s.1 : Int)), (Iv ((s.1 : Int) + 1)), (.slice pa xs.length qa), (Iv (s.1 : Int)), (Pt b13 o14), el1, (Iv s.2), (Iv (s.2 + (x1.length : Int) * 1)), Ud]) rfl rfl (does_assign (u := (Iv ((s.1 : Int) + 1))) (ev rfl)) rfl ?_
      refine wpList_nil ?_
      refine ⟨(s.1 + 1, s.2 + (x1.length : Int) * 1), ⟨fun t => (([(.slice pa xs.length qa), (Iv (s.2 + (x1.length : Int) * 1)), Ud, Ud, (Iv 0), (Iv ((s.1 : Int) + 1)), (Iv (s.1 : Int)), (.slice pa xs.length qa), (Iv (xs.length : Int)), (Bo (icmp .lss (s.1 : Int) (xs.length : Int))), (Iv (s.1 : Int)), (Iv ((s.1 : Int) + 1)), (.slice pa xs.length qa), (Iv (s.1 : Int)), (Pt b13 o14), el1, (Iv s.2), (Iv (s.2 + (x1.length : Int) * 1)), Ud] : List Value)[t]?).getD undef, ?_, (KpL.more E6 K18 (fun c hc => .inl (hst.sub _ c hc))), (NMk.step hst K18 (fun y z hy hz => by rw [hel1] at hy; rw [hx1] at hz; cases hy; cases hz; rw [show preK k xs s.1 = s.2 from hn2.symm]; exact hM19)), ?_⟩, ?_⟩
      · first | rfl | (simp only [Int.natCast_add, Int.natCast_one]; rfl)
      · (try dsimp only); exact ⟨by omega, by (try dsimp only); omega⟩
      · (try dsimp only); omega
    have c11' := c11
    (try simp only [icmp, Bool.and_eq_true, Bool.or_eq_true, Bool.and_eq_false_iff, Bool.or_eq_false_iff, Bool.not_eq_true', Bool.not_eq_false', decide_eq_true_eq, decide_eq_false_iff_not, beq_iff_eq, bne_iff_ne, beq_eq_false_iff_ne, bne_eq_false_iff_eq] at c11')
    refine wp_exit ?_
    refine hK2 _ _ ?_
    refine wp_seq_k fun K21 hK21 => ?_
    refine wp_region_lit ?_
    refine q_is (l' := [(.slice pa xs.length qa), (Iv s.2), Ud, Ud, (Iv 0), (Iv (s.1 : Int)), (Iv (s.1 : Int)), (.slice pa xs.length qa), (Iv (xs.length : Int)), (Bo (icmp .lss (s.1 : Int) (xs.length : Int))), (u4 10), (u4 11), (u4 12), (u4 13), (u4 14), (u4 15), (u4 16), (u4 17), (Iv s.2)]) rfl rfl (does_move (u := (Iv s.2)) (ev rfl)) rfl ?_
    refine q_is (l' := [(.slice pa xs.length qa), (Iv s.2), Ud, Ud, (Iv s.2), (Iv (s.1 : Int)), (Iv (s.1 : Int)), (.slice pa xs.length qa), (Iv (xs.length : Int)), (Bo (icmp .lss (s.1 : Int) (xs.length : Int))), (u4 10), (u4 11), (u4 12), (u4 13), (u4 14), (u4 15), (u4 16), (u4 17), (Iv s.2)]) rfl rfl (does_assign (u := (Iv s.2)) (ev rfl)) rfl ?_
    refine wpList_nil (hK21 _ _ ?_)
    refine wp_ret ?_
    refine ret_valK (v := (Iv s.2)) (res_T rfl (slot rfl)) X8 ?_
    exact ⟨by first | rfl | (show Value.int _ _ = Value.int _ _; congr 1; rw [hn2, show s.1 = xs.length by omega]), NMk.hang hst (by omega) (by decide) (fun x hx => by have := liSum_each hx; omega) rI⟩

theorem c_laws_markMesh (p t : Value) (m : MeshT) (L : List Nat) (B : Nat) (k : Int) (w : World) (h : WLM B w L p t m) (h0 : 0 ≤ k) (h1 : k + meSz m ≤ 4611686018427387904) : GivesK L Try.prog 9 #[.agg #[p, t], Iv k] w (fun v w' => v = Iv (k + meSz m) ∧ Hang B w' (fun u => Sl RV3 3 u p (mkL fV 3 k m.places.length)) ∧ Hang B w' (fun u => Sl (RS RI 1) 1 u t (mkLL fI 1 (preK (k + (m.places.length : Int) * 3) m.tris) m.tris))) := by
  unfold meSz at h1
  obtain ⟨hL, L1, L2, hp, ht, s1, s2, hd⟩ := h
  obtain ⟨pp, qp, rfl⟩ := WL.shape' hp
  obtain ⟨pt, qt, rfl⟩ := WLL.shape ht
  refine enterK [(.agg #[(.slice pp m.places.length qp), (.slice pt m.tris.length qt)]), (Iv k), Ud, Ud, Ud, Ud, Ud, Ud, Ud, Ud, Ud, Ud, Ud, Ud] Try.func9 rfl Try.ntmps9 rfl ?_
  refine wp_seq_k fun K1 hK1 => ?_
  refine wp_region_lit ?_
  refine seqd rfl rfl (does_box (u := (.agg #[(.slice pp m.places.length qp), (.slice pt m.tris.length qt)])) (ev rfl)) ?_; rintro _ w6 ⟨b2, rfl, hb3, hB4, E5⟩
  have g7 : w.heap.size ≤ b2 := Nat.le_trans (KpL.size (KpL.refl L w)) hb3
  change Blk _ _ [(.slice pp m.places.length qp), (.slice pt m.tris.length qt)] at hB4
  have X8 := KpL.ext (KpL.refl L w) E5
  show wpList _ _ _ _ (fr [(.agg #[(.slice pp m.places.length qp), (.slice pt m.tris.length qt)]), (Iv k), (Pt b2 0), Ud, Ud, Ud, Ud, Ud, Ud, Ud, Ud, Ud, Ud, Ud]) _
  refine q_is (l' := [(.agg #[(.slice pp m.places.length qp), (.slice pt m.tris.length qt)]), (Iv k), (Pt b2 0), Ud, (Iv 0), Ud, Ud, Ud, Ud, Ud, Ud, Ud, Ud, Ud]) rfl rfl (does_assign (u := (Iv 0)) (ev rfl)) rfl ?_
  refine wpList_nil (hK1 _ _ ?_)
  refine wp_seq_k fun K9 hK9 => ?_
  refine wp_region_lit ?_
  refine q_is (l' := [(.agg #[(.slice pp m.places.length qp), (.slice pt m.tris.length qt)]), (Iv k), (Pt b2 0), Ud, (Iv 0), (Pt b2 0), Ud, Ud, Ud, Ud, Ud, Ud, Ud, Ud]) rfl rfl (does_fieldAddr (ev rfl) fa29_0) rfl ?_
  refine q_is (l' := [(.agg #[(.slice pp m.places.length qp), (.slice pt m.tris.length qt)]), (Iv k), (Pt b2 0), Ud, (Iv 0), (Pt b2 0), (.slice pp m.places.length qp), Ud, Ud, Ud, Ud, Ud, Ud, Ud]) rfl rfl (does_load (u := (.slice pp m.places.length qp)) (ev rfl) Try.isAgg27 (Cells.at (Blk.cells hB4) 0 rfl)) rfl ?_
  refine q_is (l' := [(.agg #[(.slice pp m.places.length qp), (.slice pt m.tris.length qt)]), (Iv k), (Pt b2 0), Ud, (Iv 0), (Pt b2 0), (.slice pp m.places.length qp), (Iv k), Ud, Ud, Ud, Ud, Ud, Ud]) rfl rfl (does_move (u := (Iv k)) (ev rfl)) rfl ?_
  refine seqd rfl rfl (does_callK (args := #[(.slice pp m.places.length qp), (Iv k)]) cal21 (evs rfl) (c_laws_markVectorS_mk (.slice pp m.places.length qp) m.places.length L1 B k _ (hp.same (Same.of_ext (Ext.gr (Ext.refl _) E5))) (by omega) (by omega))) ?_; rintro _ w10 ⟨K11, rfl, hM12⟩
  have X13 := KpL.more X8 K11 (fun c hc => .inl (s1 c hc))
  have ht2 := WLL.kl (ht.same (Same.of_ext (Ext.gr (Ext.refl _) E5))) K11 hd
  show wpList _ _ _ _ (fr [(.agg #[(.slice pp m.places.length qp), (.slice pt m.tris.length qt)]), (Iv k), (Pt b2 0), Ud, (Iv 0), (Pt b2 0), (.slice pp m.places.length qp), (Iv k), (Iv (k + (m.places.length : Int) * 3)), Ud, Ud, Ud, Ud, Ud]) _
  refine q_is (l' := [(.agg #[(.slice pp m.places.length qp), (.slice pt m.tris.length qt)]), (Iv (k + (m.places.length : Int) * 3)), (Pt b2 0), Ud, (Iv 0), (Pt b2 0), (.slice pp m.places.length qp), (Iv k), (Iv (k + (m.places.length : Int) * 3)), Ud, Ud, Ud, Ud, Ud]) rfl rfl (does_assign (u := (Iv (k + (m.places.length : Int) * 3))) (ev rfl)) rfl ?_
  refine wpList_nil (hK9 _ _ ?_)
  refine wp_seq_k fun K14 hK14 => ?_
  refine wp_region_lit ?_
  refine q_is (l' := [(.agg #[(.slice pp m.places.length qp), (.slice pt m.tris.length qt)]), (Iv (k + (m.places.length : Int) * 3)), (Pt b2 0), Ud, (Iv 0), (Pt b2 0), (.slice pp m.places.length qp), (Iv k), (Iv (k + (m.places.length : Int) * 3)), (Pt b2 1), Ud, Ud, Ud, Ud]) rfl rfl (does_fieldAddr (ev rfl) fa29_1) rfl ?_
  refine q_is (l' := [(.agg #[(.slice pp m.places.length qp), (.slice pt m.tris.length qt)]), (Iv (k + (m.places.length : Int) * 3)), (Pt b2 0), Ud, (Iv 0), (Pt b2 0), (.slice pp m.places.length qp), (Iv k), (Iv (k + (m.places.length : Int) * 3)), (Pt b2 1), (.slice pt m.tris.length qt), Ud, Ud, Ud]) rfl rfl (does_load (u := (.slice pt m.tris.length qt)) (ev rfl) Try.isAgg23 (Cells.at (Blk.cells (hB4.kl K11 (fun hc => absurd (Nat.lt_of_lt_of_le (hp.1 _ hc).2 (Nat.le_trans (Nat.le_refl _) hb3)) (Nat.lt_irrefl _)))) 1 rfl)) rfl ?_
  refine q_is (l' := [(.agg #[(.slice pp m.places.length qp), (.slice pt m.tris.length qt)]), (Iv (k + (m.places.length : Int) * 3)), (Pt b2 0), Ud, (Iv 0), (Pt b2 0), (.slice pp m.places.length qp), (Iv k), (Iv (k + (m.places.length : Int) * 3)), (Pt b2 1), (.slice pt m.tris.length qt), (Iv (k + (m.places.length : Int) * 3)), Ud, Ud]) rfl rfl (does_move (u := (Iv (k + (m.places.length : Int) * 3))) (ev rfl)) rfl ?_
  refine seqd rfl rfl (does_callK (args := #[(.slice pt m.tris.length qt), (Iv (k + (m.places.length : Int) * 3))]) cal22 (evs rfl) (c_laws_markInt64SS (.slice pt m.tris.length qt) m.tris L2 B (k + (m.places.length : Int) * 3) _ ht2 (by omega) (by omega))) ?_; rintro _ w15 ⟨K16, rfl, hM17⟩
  have X18 := KpL.more X13 K16 (fun c hc => .inl (s2 c hc))
  have hM2 := MkS.kl hM12 K16 (fun c hc => (hd c hc).1)
  show wpList _ _ _ _ (fr [(.agg #[(.slice pp m.places.length qp), (.slice pt m.tris.length qt)]), (Iv (k + (m.places.length : Int) * 3)), (Pt b2 0), Ud, (Iv 0), (Pt b2 0), (.slice pp m.places.length qp), (Iv k), (Iv (k + (m.places.length : Int) * 3)), (Pt b2 1), (.slice pt m.tris.length qt), (Iv (k + (m.places.length : Int) * 3)), (Iv ((k + (m.places.length : Int) * 3) + (liSum m.tris m.tris.length : Nat))), Ud]) _
  refine q_is (l' := [(.agg #[(.slice pp m.places.length qp), (.slice pt m.tris.length qt)]), (Iv ((k + (m.places.length : Int) * 3) + (liSum m.tris m.tris.length : Nat))), (Pt b2 0), Ud, (Iv 0), (Pt b2 0), (.slice pp m.places.length qp), (Iv k), (Iv (k + (m.places.length : Int) * 3)), (Pt b2 1), (.slice pt m.tris.length qt), (Iv (k + (m.places.length : Int) * 3)), (Iv ((k + (m.places.length : Int) * 3) + (liSum m.tris m.tris.length : Nat))), Ud]) rfl rfl (does_assign (u := (Iv ((k + (m.places.length : Int) * 3) + (liSum m.tris m.tris.length : Nat)))) (ev rfl)) rfl ?_
  refine wpList_nil (hK14 _ _ ?_)
  refine wp_seq_k fun K19 hK19 => ?_
  refine wp_region_lit ?_
  refine q_is (l' := [(.agg #[(.slice pp m.places.length qp), (.slice pt m.tris.length qt)]), (Iv ((k + (m.places.length : Int) * 3) + (liSum m.tris m.tris.length : Nat))), (Pt b2 0), Ud, (Iv 0), (Pt b2 0), (.slice pp m.places.length qp), (Iv k), (Iv (k + (m.places.length : Int) * 3)), (Pt b2 1), (.slice pt m.tris.length qt), (Iv (k + (m.places.length : Int) * 3)), (Iv ((k + (m.places.length : Int) * 3) + (liSum m.tris m.tris.length : Nat))), (Iv ((k + (m.places.length : Int) * 3) + (liSum m.tris m.tris.length : Nat)))]) rfl rfl (does_move (u := (Iv ((k + (m.places.length : Int) * 3) + (liSum m.tris m.tris.length : Nat)))) (ev rfl)) rfl ?_
  refine q_is (l' := [(.agg #[(.slice pp m.places.length qp), (.slice pt m.tris.length qt)]), (Iv ((k + (m.places.length : Int) * 3) + (liSum m.tris m.tris.length : Nat))), (Pt b2 0), Ud, (Iv ((k + (m.places.length : Int) * 3) + (liSum m.tris m.tris.length : Nat))), (Pt b2 0), (.slice pp m.places.length qp), (Iv k), (Iv (k + (m.places.length : Int) * 3)), (Pt b2 1), (.slice pt m.tris.length qt), (Iv (k + (m.places.length : Int) * 3)), (Iv ((k + (m.places.length : Int) * 3) + (liSum m.tris m.tris.length : Nat))), (Iv ((k + (m.places.length : Int) * 3) + (liSum m.tris m.tris.length : Nat)))]) rfl rfl (does_assign (u := (Iv ((k + (m.places.length : Int) * 3) + (liSum m.tris m.tris.length : Nat)))) (ev rfl)) rfl ?_
  refine wpList_nil (hK19 _ _ ?_)
  refine wp_ret ?_
  refine ret_valK (v := (Iv ((k + (m.places.length : Int) * 3) + (liSum m.tris m.tris.length : Nat)))) (res_T rfl (slot rfl)) X18 ?_
  exact ⟨by first | rfl | (show Value.int _ _ = Value.int _ _; congr 1; (try unfold meSz); omega), fun u hu => (hM2.same hu (fun c hc => (hp.1 c hc).1)).sl (by decide) (by omega) rV, hM17⟩

/- laws.heldVectorS -/
theorem c_laws_heldVectorS (a : Value) (L_a : List V3) (k : Int) (w : World) (hv_a : Sl RV3 3 w a L_a) (hm : L_a = mkL fV 3 k L_a.length) (h0 : 0 ≤ k) (h1 : k + (L_a.length : Int) * 3 ≤ 4611686018427387904) : Gives Try.prog 23 #[a, (Iv k)] w (fun v w' => v = (Iv (k + (L_a.length : Int) * 3))) := by
  have hlen_a := Sl.len hv_a; obtain ⟨p_a, q_a, rfl⟩ := Sl.shape hv_a
  refine enter [(.slice p_a L_a.length q_a), (Iv k), Ud, Ud, Ud, Ud, Ud, Ud, Ud, Ud, Ud, Ud, Ud, Ud, Ud, Ud, Ud, Ud, Ud, Ud, Ud, Ud, Ud, Ud, Ud, Ud, Ud, Ud, Ud, Ud, Ud, Ud, Ud, Ud, Ud, Ud, Ud, Ud, Ud, Ud, Ud, Ud, Ud] Try.func23 rfl Try.ntmps23 rfl ?_
  refine wp_seq_k fun K1 hK1 => ?_
  refine wp_region_lit ?_
  refine q_is rfl rfl (does_assign (u := (Iv 0)) (ev rfl)) (by dsimp only [List.set]; try rfl) ?_
  refine wpList_nil (hK1 _ _ ?_)
  refine wp_seq_k fun K2 hK2 => ?_
  refine wp_seq_k fun K3 hK3 => ?_
  refine wp_region_lit ?_
  refine q_is rfl rfl (does_assign (u := (Iv 0)) (ev rfl)) (by dsimp only [List.set]; try rfl) ?_
  refine wpList_nil (hK3 _ _ ?_)
  refine wp_block ?_
  refine loop_ghost (σ := Nat × Int) (fun s a w' => ∃ u4 : Nat → Value, a = fr [(.slice p_a L_a.length q_a), (Iv s.2), Ud, Ud, (u4 4), (Iv (s.1 : Int)), (u4 6), (u4 7), (u4 8), (u4 9), (u4 10), (u4 11), (u4 12), (u4 13), (u4 14), (u4 15), (u4 16), (u4 17), (u4 18), (u4 19), (u4 20), (u4 21), (u4 22), (u4 23), (u4 24), (u4 25), (u4 26), (u4 27), (u4 28), (u4 29), (u4 30), (u4 31), (u4 32), (u4 33), (u4 34), (u4 35), (u4 36), (u4 37), (u4 38), (u4 39), (u4 40), (u4 41), Ud] ∧ Ext w w' ∧ (s.1 ≤ L_a.length ∧ s.2 = k + (s.1 : Int) * 3)) (fun s => L_a.length - s.1) (0, k) ?_ ?_
  · refine ⟨fun t => (([(.slice p_a L_a.length q_a), (Iv k), Ud, Ud, (Iv 0), (Iv 0), Ud, Ud, Ud, Ud, Ud, Ud, Ud, Ud, Ud, Ud, Ud, Ud, Ud, Ud, Ud, Ud, Ud, Ud, Ud, Ud, Ud, Ud, Ud, Ud, Ud, Ud, Ud, Ud, Ud, Ud, Ud, Ud, Ud, Ud, Ud, Ud, Ud] : List Value)[t]?).getD undef, rfl, Ext.refl _, ?_⟩
    exact ⟨Nat.zero_le _, by simp⟩
  · rintro s a w5 ⟨u4, rfl, E6, ⟨hk, hn2⟩⟩
    have X8 := Ext.gr (Ext.refl w) E6
    refine wp_seq_k fun K9 hK9 => ?_
    refine wp_seq_k fun K10 hK10 => ?_
    refine wp_region_lit ?_
    refine q_is rfl rfl (does_move (u := (Iv (s.1 : Int))) (ev rfl)) (by dsimp only [List.set]; try rfl) ?_
    refine q_is rfl rfl (does_move (u := (.slice p_a L_a.length q_a)) (ev rfl)) (by dsimp only [List.set]; try rfl) ?_
    refine q_is rfl rfl (does_len_slice Try.underlying27 (ev rfl)) (by dsimp only [List.set]; try rfl) ?_
    refine q_is rfl rfl (does_icmp (p := (s.1 : Int)) (q := (L_a.length : Int)) (.inr (.inr (.inl rfl))) (ev rfl) (ev rfl)) (by dsimp only [List.set]; try rfl) ?_
    refine wpList_nil (hK10 _ _ ?_)
    refine wp_cond_split (t := icmp .lss (s.1 : Int) (L_a.length : Int)) (ev rfl) (fun c11 => ?_) (fun c11 => ?_)
    · have c11' := c11
      (try simp only [icmp, Bool.and_eq_true, Bool.or_eq_true, Bool.and_eq_false_iff, Bool.or_eq_false_iff, Bool.not_eq_true', Bool.not_eq_false', decide_eq_true_eq, decide_eq_false_iff_not, beq_iff_eq, bne_iff_ne, beq_eq_false_iff_ne, bne_eq_false_iff_eq] at c11')
      refine wp_skip (hK9 _ _ ?_)
      refine wp_seq_k fun K12 hK12 => ?_
      refine wp_block ?_
      refine wp_seq_k fun K13 hK13 => ?_
      refine wp_seq_k fun K14 hK14 => ?_
      refine wp_region_lit ?_
      refine q_is rfl rfl (does_move (u := (.slice p_a L_a.length q_a)) (ev rfl)) (by dsimp only [List.set]; try rfl) ?_
      refine q_is rfl rfl (does_move (u := (Iv (s.1 : Int))) (ev rfl)) (by dsimp only [List.set]; try rfl) ?_
      obtain ⟨el1, hel1⟩ : ∃ e, L_a[s.1]? = some e := ⟨_, List.getElem?_eq_getElem (by omega)⟩
      refine seqd rfl rfl (does_indexSl (R := RV3) (i := (s.1 : Int)) (xs := L_a) (e := el1) Try.underlying27 Try.sizeOf53 (ev rfl) (ev rfl) (Sl.ext hv_a RV3.mono X8) (by omega) hel1) ?_; rintro _ w5 ⟨b15, o16, _, rfl, hc18, ⟨r19, r21, r23, rfl, h20, h22, h24⟩, rfl⟩
      show wpList _ _ _ _ (fr [_, _, _, _, _, _, _, _, _, _, _, _, _, _, _, _, _, _, _, _, _, _, _, _, _, _, _, _, _, _, _, _, _, _, _, _, _, _, _, _, _, _, _]) _
      refine q_is rfl rfl (does_fieldAddr (ev rfl) fa53_0) (by dsimp only [List.set]; try rfl) ?_
      refine q_is rfl rfl (does_load (u := (Fl r19)) (ev rfl) Try.isAgg51 (Cells.at hc18 0 rfl)) (by dsimp only [List.set]; try rfl) ?_
      refine q_is rfl rfl (does_move (u := (Iv s.2)) (ev rfl)) (by dsimp only [List.set]; try rfl) ?_
      refine q_is rfl rfl (does_conv_if (k := .f32) Try.underlying3 Try.underlying51 (ev rfl)) (by dsimp only [List.set]; try rfl) ?_
      refine q_is rfl rfl (does_fcmp (.inr (.inl rfl)) (ev rfl) (ev rfl)) (by dsimp only [List.set]; try rfl) ?_
      refine wpList_nil (hK14 _ _ ?_)
      refine wp_cond_split (t := fcmp .neq (ford .f32 (cf .f32 r19) (cf .f32 (FloatKind.f32.nearest s.2)))) (ev rfl) (fun c25 => ?_) (fun c25 => ?_)
      · have c25' := c25
        exfalso; have he := mkL_at hm hel1; have e2 : s.2 = k + ((s.1 * 3 : Nat) : Int) := (by omega); simp only [hel1, h20, h22, h24] at c25; rw [he, e2] at c25; simp only [fV] at c25; exact Bool.false_ne_true ((fF_self (k + ((s.1 * 3 : Nat) : Int))).symm.trans c25)
      have c25' := c25
      refine wp_skip (hK13 _ _ ?_)
      refine wp_seq_k fun K26 hK26 => ?_
      refine wp_region_lit ?_
      refine q_is rfl rfl (does_move (u := (Iv s.2)) (ev rfl)) (by dsimp only [List.set]; try rfl) ?_
      refine q_is rfl rfl (does_iarith (p := s.2) (q := 1) (r := s.2 + 1) (ev rfl) (ev rfl) (.inl ⟨rfl, (in_i64 (by omega) (by omega)).symm⟩)) (by dsimp only [List.set]; try rfl) ?_
      refine q_is rfl rfl (does_assign (u := (Iv (s.2 + 1))) (ev rfl)) (by dsimp only [List.set]; try rfl) ?_
      refine wpList_nil (hK26 _ _ ?_)
      refine wp_seq_k fun K27 hK27 => ?_
      refine wp_seq_k fun K28 hK28 => ?_
      refine wp_region_lit ?_
      refine q_is rfl rfl (does_move (u := (.slice p_a L_a.length q_a)) (ev rfl)) (by dsimp only [List.set]; try rfl) ?_
      refine q_is rfl rfl (does_move (u := (Iv (s.1 : Int))) (ev rfl)) (by dsimp only [List.set]; try rfl) ?_
      refine seqd rfl rfl (does_indexSl (R := RV3) (i := (s.1 : Int)) (xs := L_a) (e := el1) Try.underlying27 Try.sizeOf53 (ev rfl) (ev rfl) (Sl.ext hv_a RV3.mono X8) (by omega) hel1) ?_; rintro _ w5 ⟨b29, o30, _, rfl, hc32, ⟨r33, r35, r37, rfl, h34, h36, h38⟩, rfl⟩
      show wpList _ _ _ _ (fr [_, _, _, _, _, _, _, _, _, _, _, _, _, _, _, _, _, _, _, _, _, _, _, _, _, _, _, _, _, _, _, _, _, _, _, _, _, _, _, _, _, _, _]) _
      refine q_is rfl rfl (does_fieldAddr (ev rfl) fa53_1) (by dsimp only [List.set]; try rfl) ?_
      refine q_is rfl rfl (does_load (u := (Fl r35)) (ev rfl) Try.isAgg51 (Cells.at hc32 1 rfl)) (by dsimp only [List.set]; try rfl) ?_
      refine q_is rfl rfl (does_move (u := (Iv (s.2 + 1))) (ev rfl)) (by dsimp only [List.set]; try rfl) ?_
      refine q_is rfl rfl (does_conv_if (k := .f32) Try.underlying3 Try.underlying51 (ev rfl)) (by dsimp only [List.set]; try rfl) ?_
      refine q_is rfl rfl (does_fcmp (.inr (.inl rfl)) (ev rfl) (ev rfl)) (by dsimp only [List.set]; try rfl) ?_
      refine wpList_nil (hK28 _ _ ?_)
      refine wp_cond_split (t := fcmp .neq (ford .f32 (cf .f32 r35) (cf .f32 (FloatKind.f32.nearest (s.2 + 1))))) (ev rfl) (fun c39 => ?_) (fun c39 => ?_)
      · have c39' := c39
        exfalso; have he := mkL_at hm hel1; have e2 : s.2 = k + ((s.1 * 3 : Nat) : Int) := (by omega); simp only [hel1, h20, h22, h24, h34, h36, h38] at c39; rw [he, e2] at c39; simp only [fV] at c39; exact Bool.false_ne_true ((fF_self (k + ((s.1 * 3 : Nat) : Int) + 1)).symm.trans c39)
      have c39' := c39
      refine wp_skip (hK27 _ _ ?_)
      refine wp_seq_k fun K40 hK40 => ?_
      refine wp_region_lit ?_
      refine q_is rfl rfl (does_move (u := (Iv (s.2 + 1))) (ev rfl)) (by dsimp only [List.set]; try rfl) ?_
      refine q_is rfl rfl (does_iarith (p := s.2 + 1) (q := 1) (r := (s.2 + 1) + 1) (ev rfl) (ev rfl) (.inl ⟨rfl, (in_i64 (by omega) (by omega)).symm⟩)) (by dsimp only [List.set]; try rfl) ?_
      refine q_is rfl rfl (does_assign (u := (Iv ((s.2 + 1) + 1))) (ev rfl)) (by dsimp only [List.set]; try rfl) ?_
      refine wpList_nil (hK40 _ _ ?_)
      refine wp_seq_k fun K41 hK41 => ?_
      refine wp_seq_k fun K42 hK42 => ?_
      refine wp_region_lit ?_
      refine q_is rfl rfl (does_move (u := (.slice p_a L_a.length q_a)) (ev rfl)) (by dsimp only [List.set]; try rfl) ?_
      refine q_is rfl rfl (does_move (u := (Iv (s.1 : Int))) (ev rfl)) (by dsimp only [List.set]; try rfl) ?_
      refine seqd rfl rfl (does_indexSl (R := RV3) (i := (s.1 : Int)) (xs := L_a) (e := el1) Try.underlying27 Try.sizeOf53 (ev rfl) (ev rfl) (Sl.ext hv_a RV3.mono X8) (by omega) hel1) ?_; rintro _ w5 ⟨b43, o44, _, rfl, hc46, ⟨r47, r49, r51, rfl, h48, h50, h52⟩, rfl⟩
      show wpList _ _ _ _ (fr [_, _, _, _, _, _, _, _, _, _, _, _, _, _, _, _, _, _, _, _, _, _, _, _, _, _, _, _, _, _, _, _, _, _, _, _, _, _, _, _, _, _, _]) _
      refine q_is rfl rfl (does_fieldAddr (ev rfl) fa53_2) (by dsimp only [List.set]; try rfl) ?_
      refine q_is rfl rfl (does_load (u := (Fl r51)) (ev rfl) Try.isAgg51 (Cells.at hc46 2 rfl)) (by dsimp only [List.set]; try rfl) ?_
      refine q_is rfl rfl (does_move (u := (Iv ((s.2 + 1) + 1))) (ev rfl)) (by dsimp only [List.set]; try rfl) ?_
      refine q_is rfl rfl (does_conv_if (k := .f32) Try.underlying3 Try.underlying51 (ev rfl)) (by dsimp only [List.set]; try rfl) ?_
      refine q_is rfl rfl (does_fcmp (.inr (.inl rfl)) (ev rfl) (ev rfl)) (by dsimp only [List.set]; try rfl) ?_
      refine wpList_nil (hK42 _ _ ?_)
      refine wp_cond_split (t := fcmp .neq (ford .f32 (cf .f32 r51) (cf .f32 (FloatKind.f32.nearest ((s.2 + 1) + 1))))) (ev rfl) (fun c53 => ?_) (fun c53 => ?_)
      · have c53' := c53
        exfalso; have he := mkL_at hm hel1; have e2 : s.2 = k + ((s.1 * 3 : Nat) : Int) := (by omega); simp only [hel1, h20, h22, h24, h34, h36, h38, h48, h50, h52] at c53; rw [he, e2] at c53; simp only [fV] at c53; rw [show k + ((s.1 * 3 : Nat) : Int) + 1 + 1 = k + ((s.1 * 3 : Nat) : Int) + 2 from (by omega)] at c53; exact Bool.false_ne_true ((fF_self (k + ((s.1 * 3 : Nat) : Int) + 2)).symm.trans c53)
      have c53' := c53
      refine wp_skip (hK41 _ _ ?_)
      refine wp_region_lit ?_
      refine q_is rfl rfl (does_move (u := (Iv ((s.2 + 1) + 1))) (ev rfl)) (by dsimp only [List.set]; try rfl) ?_
      refine q_is rfl rfl (does_iarith (p := (s.2 + 1) + 1) (q := 1) (r := ((s.2 + 1) + 1) + 1) (ev rfl) (ev rfl) (.inl ⟨rfl, (in_i64 (by omega) (by omega)).symm⟩)) (by dsimp only [List.set]; try rfl) ?_
      refine q_is rfl rfl (does_assign (u := (Iv (((s.2 + 1) + 1) + 1))) (ev rfl)) (by dsimp only [List.set]; try rfl) ?_
      refine wpList_nil (hK12 _ _ ?_)
      refine wp_region_lit ?_
      refine q_is rfl rfl (does_move (u := (Iv (s.1 : Int))) (ev rfl)) (by dsimp only [List.set]; try rfl) ?_
      refine q_is rfl rfl (does_iarith (p := (s.1 : Int)) (q := 1) (r := (s.1 : Int) + 1) (ev rfl) (ev rfl) (.inl ⟨rfl, (in_i64 (by omega) (by omega)).symm⟩)) (by dsimp only [List.set]; try rfl) ?_
      refine q_is rfl rfl (does_assign (u := (Iv ((s.1 : Int) + 1))) (ev rfl)) (by dsimp only [List.set]; try rfl) ?_
      refine wpList_nil ?_
      refine ⟨(s.1 + 1, ((s.2 + 1) + 1) + 1), ⟨fun t => (([(.slice p_a L_a.length q_a), (Iv (((s.2 + 1) + 1) + 1)), Ud, Ud, (u4 4), (Iv ((s.1 : Int) + 1)), (Iv (s.1 : Int)), (.slice p_a L_a.length q_a), (Iv (L_a.length : Int)), (Bo (icmp .lss (s.1 : Int) (L_a.length : Int))), (Iv (s.1 : Int)), (Iv ((s.1 : Int) + 1)), (.slice p_a L_a.length q_a), (Iv (s.1 : Int)), (Pt b15 o16), (Pt b15 o16), (Fl r19), (Iv s.2), (Fl (FloatKind.f32.nearest s.2)), (Bo (fcmp .neq (ford .f32 (cf .f32 r19) (cf .f32 (FloatKind.f32.nearest s.2))))), (Iv s.2), (Iv (s.2 + 1)), (.slice p_a L_a.length q_a), (Iv (s.1 : Int)), (Pt b29 o30), (Pt b29 (o30 + 1)), (Fl r35), (Iv (s.2 + 1)), (Fl (FloatKind.f32.nearest (s.2 + 1))), (Bo (fcmp .neq (ford .f32 (cf .f32 r35) (cf .f32 (FloatKind.f32.nearest (s.2 + 1)))))), (Iv (s.2 + 1)), (Iv ((s.2 + 1) + 1)), (.slice p_a L_a.length q_a), (Iv (s.1 : Int)), (Pt b43 o44), (Pt b43 (o44 + 2)), (Fl r51), (Iv ((s.2 + 1) + 1)), (Fl (FloatKind.f32.nearest ((s.2 + 1) + 1))), (Bo (fcmp .neq (ford .f32 (cf .f32 r51) (cf .f32 (FloatKind.f32.nearest ((s.2 + 1) + 1)))))), (Iv ((s.2 + 1) + 1)), (Iv (((s.2 + 1) + 1) + 1)), Ud] : List Value)[t]?).getD undef, ?_, E6, ?_⟩, ?_⟩
      · first | rfl | (simp only [Int.natCast_add, Int.natCast_one]; rfl)
      · (try dsimp only); exact ⟨by omega, by (try dsimp only); omega⟩
      · (try dsimp only); omega
    have c11' := c11
    (try simp only [icmp, Bool.and_eq_true, Bool.or_eq_true, Bool.and_eq_false_iff, Bool.or_eq_false_iff, Bool.not_eq_true', Bool.not_eq_false', decide_eq_true_eq, decide_eq_false_iff_not, beq_iff_eq, bne_iff_ne, beq_eq_false_iff_ne, bne_eq_false_iff_eq] at c11')
    refine wp_exit ?_
    refine hK2 _ _ ?_
    refine wp_seq_k fun K54 hK54 => ?_
    refine wp_region_lit ?_
    refine q_is rfl rfl (does_move (u := (Iv s.2)) (ev rfl)) (by dsimp only [List.set]; try rfl) ?_
    refine q_is rfl rfl (does_assign (u := (Iv s.2)) (ev rfl)) (by dsimp only [List.set]; try rfl) ?_
    refine wpList_nil (hK54 _ _ ?_)
    refine wp_ret ?_
    refine ret_val (v := (Iv s.2)) (res_T rfl (slot rfl)) X8 ?_
    have x55 : (k + (L_a.length : Int) * 3 : Int) = s.2 := by first | omega | (rw [hn2, show s.1 = L_a.length by omega])
    exact (by first | with_reducible rfl | rw [x55] | rfl)

/- laws.heldInt64S -/
theorem c_laws_heldInt64S (a : Value) (L_a : List Int) (k : Int) (w : World) (hv_a : Sl RI 1 w a L_a) (hm : L_a = mkL fI 1 k L_a.length) (h0 : 0 ≤ k) (h1 : k + (L_a.length : Int) * 1 ≤ 4611686018427387904) : Gives Try.prog 36 #[a, (Iv k)] w (fun v w' => v = (Iv (k + (L_a.length : Int) * 1))) := by
  have hlen_a := Sl.len hv_a; obtain ⟨p_a, q_a, rfl⟩ := Sl.shape hv_a
  refine enter [(.slice p_a L_a.length q_a), (Iv k), Ud, Ud, Ud, Ud, Ud, Ud, Ud, Ud, Ud, Ud, Ud, Ud, Ud, Ud, Ud, Ud, Ud, Ud, Ud] Try.func36 rfl Try.ntmps36 rfl ?_
  refine wp_seq_k fun K1 hK1 => ?_
  refine wp_region_lit ?_
  refine q_is (l' := [(.slice p_a L_a.length q_a), (Iv k), Ud, Ud, (Iv 0), Ud, Ud, Ud, Ud, Ud, Ud, Ud, Ud, Ud, Ud, Ud, Ud, Ud, Ud, Ud, Ud]) rfl rfl (does_assign (u := (Iv 0)) (ev rfl)) rfl ?_
  refine wpList_nil (hK1 _ _ ?_)
  refine wp_seq_k fun K2 hK2 => ?_
  refine wp_seq_k fun K3 hK3 => ?_
  refine wp_region_lit ?_
  refine q_is (l' := [(.slice p_a L_a.length q_a), (Iv k), Ud, Ud, (Iv 0), (Iv 0), Ud, Ud, Ud, Ud, Ud, Ud, Ud, Ud, Ud, Ud, Ud, Ud, Ud, Ud, Ud]) rfl rfl (does_assign (u := (Iv 0)) (ev rfl)) rfl ?_
  refine wpList_nil (hK3 _ _ ?_)
  refine wp_block ?_
  refine loop_ghost (σ := Nat × Int) (fun s a w' => ∃ u4 : Nat → Value, a = fr [(.slice p_a L_a.length q_a), (Iv s.2), Ud, Ud, (u4 4), (Iv (s.1 : Int)), (u4 6), (u4 7), (u4 8), (u4 9), (u4 10), (u4 11), (u4 12), (u4 13), (u4 14), (u4 15), (u4 16), (u4 17), (u4 18), (u4 19), Ud] ∧ Ext w w' ∧ (s.1 ≤ L_a.length ∧ s.2 = k + (s.1 : Int) * 1)) (fun s => L_a.length - s.1) (0, k) ?_ ?_
  · refine ⟨fun t => (([(.slice p_a L_a.length q_a), (Iv k), Ud, Ud, (Iv 0), (Iv 0), Ud, Ud, Ud, Ud, Ud, Ud, Ud, Ud, Ud, Ud, Ud, Ud, Ud, Ud, Ud] : List Value)[t]?).getD undef, rfl, Ext.refl _, ?_⟩
    exact ⟨Nat.zero_le _, by simp⟩
  · rintro s a w5 ⟨u4, rfl, E6, ⟨hk, hn2⟩⟩
    have X8 := Ext.gr (Ext.refl w) E6
    refine wp_seq_k fun K9 hK9 => ?_
    refine wp_seq_k fun K10 hK10 => ?_
    refine wp_region_lit ?_
    refine q_is (l' := [(.slice p_a L_a.length q_a), (Iv s.2), Ud, Ud, (u4 4), (Iv (s.1 : Int)), (Iv (s.1 : Int)), (u4 7), (u4 8), (u4 9), (u4 10), (u4 11), (u4 12), (u4 13), (u4 14), (u4 15), (u4 16), (u4 17), (u4 18), (u4 19), Ud]) rfl rfl (does_move (u := (Iv (s.1 : Int))) (ev rfl)) rfl ?_
    refine q_is (l' := [(.slice p_a L_a.length q_a), (Iv s.2), Ud, Ud, (u4 4), (Iv (s.1 : Int)), (Iv (s.1 : Int)), (.slice p_a L_a.length q_a), (u4 8), (u4 9), (u4 10), (u4 11), (u4 12), (u4 13), (u4 14), (u4 15), (u4 16), (u4 17), (u4 18), (u4 19), Ud]) rfl rfl (does_move (u := (.slice p_a L_a.length q_a)) (ev rfl)) rfl ?_
    refine q_is (l' := [(.slice p_a L_a.length q_a), (Iv s.2), Ud, Ud, (u4 4), (Iv (s.1 : Int)), (Iv (s.1 : Int)), (.slice p_a L_a.length q_a), (Iv (L_a.length : Int)), (u4 9), (u4 10), (u4 11), (u4 12), (u4 13), (u4 14), (u4 15), (u4 16), (u4 17), (u4 18), (u4 19), Ud]) rfl rfl (does_len_slice Try.underlying40 (ev rfl)) rfl ?_
    refine q_is (l' := [(.slice p_a L_a.length q_a), (Iv s.2), Ud, Ud, (u4 4), (Iv (s.1 : Int)), (Iv (s.1 : Int)), (.slice p_a L_a.length q_a), (Iv (L_a.length : Int)), (Bo (icmp .lss (s.1 : Int) (L_a.length : Int))), (u4 10), (u4 11), (u4 12), (u4 13), (u4 14), (u4 15), (u4 16), (u4 17), (u4 18), (u4 19), Ud]) rfl rfl (does_icmp (p := (s.1 : Int)) (q := (L_a.length : Int)) (.inr (.inr (.inl rfl))) (ev rfl) (ev rfl)) rfl ?_
    refine wpList_nil (hK10 _ _ ?_)
    refine wp_cond_split (t := icmp .lss (s.1 : Int) (L_a.length : Int)) (ev rfl) (fun c11 => ?_) (fun c11 => ?_)
    · have c11' := c11
      (try simp only [icmp, Bool.and_eq_true, Bool.or_eq_true, Bool.and_eq_false_iff, Bool.or_eq_false_iff, Bool.not_eq_true', Bool.not_eq_false', decide_eq_true_eq, decide_eq_false_iff_not, beq_iff_eq, bne_iff_ne, beq_eq_false_iff_ne, bne_eq_false_iff_eq] at c11')
      refine wp_skip (hK9 _ _ ?_)
      refine wp_seq_k fun K12 hK12 => ?_
      refine wp_block ?_
      refine wp_seq_k fun K13 hK13 => ?_
      refine wp_seq_k fun K14 hK14 => ?_
      refine wp_region_lit ?_
      refine q_is (l' := [(.slice p_a L_a.length q_a), (Iv s.2), Ud, Ud, (u4 4), (Iv (s.1 : Int)), (Iv (s.1 : Int)), (.slice p_a L_a.length q_a), (Iv (L_a.length : Int)), (Bo (icmp .lss (s.1 : Int) (L_a.length : Int))), (u4 10), (u4 11), (.slice p_a L_a.length q_a), (u4 13), (u4 14), (u4 15), (u4 16), (u4 17), (u4 18), (u4 19), Ud]) rfl rfl (does_move (u := (.slice p_a L_a.length q_a)) (ev rfl)) rfl ?_
      refine q_is (l' := [(.slice p_a L_a.length q_a), (Iv s.2), Ud, Ud, (u4 4), (Iv (s.1 : Int)), (Iv (s.1 : Int)), (.slice p_a L_a.length q_a), (Iv (L_a.length : Int)), (Bo (icmp .lss (s.1 : Int) (L_a.length : Int))), (u4 10), (u4 11), (.slice p_a L_a.length q_a), (Iv (s.1 : Int)), (u4 14), (u4 15), (u4 16), (u4 17), (u4 18), (u4 19), Ud]) rfl rfl (does_move (u := (Iv (s.1 : Int))) (ev rfl)) rfl ?_
      obtain ⟨el1, hel1⟩ : ∃ e, L_a[s.1]? = some e := ⟨_, List.getElem?_eq_getElem (by omega)⟩
      refine seqd rfl rfl (does_indexSl (R := RI) (i := (s.1 : Int)) (xs := L_a) (e := el1) Try.underlying40 Try.sizeOf2 (ev rfl) (ev rfl) (Sl.ext hv_a RI.mono X8) (by omega) hel1) ?_; rintro _ w5 ⟨b15, o16, _, rfl, hc18, rfl, rfl⟩
      show wpList _ _ _ _ (fr [(.slice p_a L_a.length q_a), (Iv s.2), Ud, Ud, (u4 4), (Iv (s.1 : Int)), (Iv (s.1 : Int)), (.slice p_a L_a.length q_a), (Iv (L_a.length : Int)), (Bo (icmp .lss (s.1 : Int) (L_a.length : Int))), (u4 10), (u4 11), (.slice p_a L_a.length q_a), (Iv (s.1 : Int)), (Pt b15 o16), (u4 15), (u4 16), (u4 17), (u4 18), (u4 19), Ud]) _
      refine q_is (l' := [(.slice p_a L_a.length q_a), (Iv s.2), Ud, Ud, (u4 4), (Iv (s.1 : Int)), (Iv (s.1 : Int)), (.slice p_a L_a.length q_a), (Iv (L_a.length : Int)), (Bo (icmp .lss (s.1 : Int) (L_a.length : Int))), (u4 10), (u4 11), (.slice p_a L_a.length q_a), (Iv (s.1 : Int)), (Pt b15 o16), (Iv el1), (u4 16), (u4 17), (u4 18), (u4 19), Ud]) rfl rfl (does_load (u := (Iv el1)) (ev rfl) Try.isAgg2 (Cells.at hc18 0 rfl)) rfl ?_
      refine q_is (l' := [(.slice p_a L_a.length q_a), (Iv s.2), Ud, Ud, (u4 4), (Iv (s.1 : Int)), (Iv (s.1 : Int)), (.slice p_a L_a.length q_a), (Iv (L_a.length : Int)), (Bo (icmp .lss (s.1 : Int) (L_a.length : Int))), (u4 10), (u4 11), (.slice p_a L_a.length q_a), (Iv (s.1 : Int)), (Pt b15 o16), (Iv el1), (Iv s.2), (u4 17), (u4 18), (u4 19), Ud]) rfl rfl (does_move (u := (Iv s.2)) (ev rfl)) rfl ?_
      refine q_is (l' := [(.slice p_a L_a.length q_a), (Iv s.2), Ud, Ud, (u4 4), (Iv (s.1 : Int)), (Iv (s.1 : Int)), (.slice p_a L_a.length q_a), (Iv (L_a.length : Int)), (Bo (icmp .lss (s.1 : Int) (L_a.length : Int))), (u4 10), (u4 11), (.slice p_a L_a.length q_a), (Iv (s.1 : Int)), (Pt b15 o16), (Iv el1), (Iv s.2), (Bo (icmp .neq el1 s.2)), (u4 18), (u4 19), Ud]) rfl rfl (does_icmp (p := el1) (q := s.2) (.inr (.inl rfl)) (ev rfl) (ev rfl)) rfl ?_
      refine wpList_nil (hK14 _ _ ?_)
      refine wp_cond_split (t := icmp .neq el1 s.2) (ev rfl) (fun c19 => ?_) (fun c19 => ?_)
      · have c19' := c19
        (try simp only [icmp, Bool.and_eq_true, Bool.or_eq_true, Bool.and_eq_false_iff, Bool.or_eq_false_iff, Bool.not_eq_true', Bool.not_eq_false', decide_eq_true_eq, decide_eq_false_iff_not, beq_iff_eq, bne_iff_ne, beq_eq_false_iff_ne, bne_eq_false_iff_eq] at c19')
        exfalso; have he := mkL_at hm hel1; subst he; simp only [fI, icmp, bne_iff_ne, ne_eq] at c19; omega
      have c19' := c19
      (try simp only [icmp, Bool.and_eq_true, Bool.or_eq_true, Bool.and_eq_false_iff, Bool.or_eq_false_iff, Bool.not_eq_true', Bool.not_eq_false', decide_eq_true_eq, decide_eq_false_iff_not, beq_iff_eq, bne_iff_ne, beq_eq_false_iff_ne, bne_eq_false_iff_eq] at c19')
      refine wp_skip (hK13 _ _ ?_)
      refine wp_region_lit ?_
      refine q_is (l' := [(.slice p_a L_a.length q_a), (Iv s.2), Ud, Ud, (u4 4), (Iv (s.1 : Int)), (Iv (s.1 : Int)), (.slice p_a L_a.length q_a), (Iv (L_a.length : Int)), (Bo (icmp .lss (s.1 : Int) (L_a.length : Int))), (u4 10), (u4 11), (.slice p_a L_a.length q_a), (Iv (s.1 : Int)), (Pt b15 o16), (Iv el1), (Iv s.2), (Bo (icmp .neq el1 s.2)), (Iv s.2), (u4 19), Ud]) rfl rfl (does_move (u := (Iv s.2)) (ev rfl)) rfl ?_
      refine q_is (l' := [(.slice p_a L_a.length q_a), (Iv s.2), Ud, Ud, (u4 4), (Iv (s.1 : Int)), (Iv (s.1 : Int)), (.slice p_a L_a.length q_a), (Iv (L_a.length : Int)), (Bo (icmp .lss (s.1 : Int) (L_a.length : Int))), (u4 10), (u4 11), (.slice p_a L_a.length q_a), (Iv (s.1 : Int)), (Pt b15 o16), (Iv el1), (Iv s.2), (Bo (icmp .neq el1 s.2)), (Iv s.2), (Iv (s.2 + 1)), Ud]) rfl rfl (does_iarith (p := s.2) (q := 1) (r := s.2 + 1) (ev rfl) (ev rfl) (.inl ⟨rfl, (in_i64 (by omega) (by omega)).symm⟩)) rfl ?_
      refine q_is (l' := [(.slice p_a L_a.length q_a), (Iv (s.2 + 1)), Ud, Ud, (u4 4), (Iv (s.1 : Int)), (Iv (s.1 : Int)), (.slice p_a L_a.length q_a), (Iv (L_a.length : Int)), (Bo (icmp .lss (s.1 : Int) (L_a.length : Int))), (u4 10), (u4 11), (.slice p_a L_a.length q_a), (Iv (s.1 : Int)), (Pt b15 o16), (Iv el1), (Iv s.2), (Bo (icmp .neq el1 s.2)), (Iv s.2), (Iv (s.2 + 1)), Ud]) rfl rfl (does_assign (u := (Iv (s.2 + 1))) (ev rfl)) rfl ?_
      refine wpList_nil (hK12 _ _ ?_)
      refine wp_region_lit ?_
      refine q_is (l' := [(.slice p_a L_a.length q_a), (Iv (s.2 + 1)), Ud, Ud, (u4 4), (Iv (s.1 : Int)), (Iv (s.1 : Int)), (.slice p_a L_a.length q_a), (Iv (L_a.length : Int)), (Bo (icmp .lss (s.1 : Int) (L_a.length : Int))), (Iv (s.1 : Int)), (u4 11), (.slice p_a L_a.length q_a), (Iv (s.1 : Int)), (Pt b15 o16), (Iv el1), (Iv s.2), (Bo (icmp .neq el1 s.2)), (Iv s.2), (Iv (s.2 + 1)), Ud]) rfl rfl (does_move (u := (Iv (s.1 : Int))) (ev rfl)) rfl ?_
      refine q_is (l' := [(.slice p_a L_a.length q_a), (Iv (s.2 + 1)), Ud, Ud, (u4 4), (Iv (s.1 : Int)), (Iv (s.1 : Int)), (.slice p_a L_a.length q_a), (Iv (L_a.length : Int)), (Bo (icmp .lss (s.1 : Int) (L_a.length : Int))), (Iv (s.1 : Int)), (Iv ((s.1 : Int) + 1)), (.slice p_a L_a.length q_a), (Iv (s.1 : Int)), (Pt b15 o16), (Iv el1), (Iv s.2), (Bo (icmp .neq el1 s.2)), (Iv s.2), (Iv (s.2 + 1)), Ud]) rfl rfl (does_iarith (p := (s.1 : Int)) (q := 1) (r := (s.1 : Int) + 1) (ev rfl) (ev rfl) (.inl ⟨rfl, (in_i64 (by omega) (by omega)).symm⟩)) rfl ?_
      refine q_is (l' := [(.slice p_a L_a.length q_a), (Iv (s.2 + 1)), Ud, Ud, (u4 4), (Iv ((s.1 : Int) + 1)), (Iv (s.1 : Int)), (.slice p_a L_a.length q_a), (Iv (L_a.length : Int)), (Bo (icmp .lss (s.1 : Int) (L_a.length : Int))), (Iv (s.1 : Int)), (Iv ((s.1 : Int) + 1)), (.slice p_a L_a.length q_a), (Iv (s.1 : Int)), (Pt b15 o16), (Iv el1), (Iv s.2), (Bo (icmp .neq el1 s.2)), (Iv s.2), (Iv (s.2 + 1)), Ud]) rfl rfl (does_assign (u := (Iv ((s.1 : Int) + 1))) (ev rfl)) rfl ?_
      refine wpList_nil ?_
      refine ⟨(s.1 + 1, s.2 + 1), ⟨fun t => (([(.slice p_a L_a.length q_a), (Iv (s.2 + 1)), Ud, Ud, (u4 4), (Iv ((s.1 : Int) + 1)), (Iv (s.1 : Int)), (.slice p_a L_a.length q_a), (Iv (L_a.length : Int)), (Bo (icmp .lss (s.1 : Int) (L_a.length : Int))), (Iv (s.1 : Int)), (Iv ((s.1 : Int) + 1)), (.slice p_a L_a.length q_a), (Iv (s.1 : Int)), (Pt b15 o16), (Iv el1), (Iv s.2), (Bo (icmp .neq el1 s.2)), (Iv s.2), (Iv (s.2 + 1)), Ud] : List Value)[t]?).getD undef, ?_, E6, ?_⟩, ?_⟩
      · first | rfl | (simp only [Int.natCast_add, Int.natCast_one]; rfl)
      · (try dsimp only); exact ⟨by omega, by (try dsimp only); omega⟩
      · (try dsimp only); omega
    have c11' := c11
    (try simp only [icmp, Bool.and_eq_true, Bool.or_eq_true, Bool.and_eq_false_iff, Bool.or_eq_false_iff, Bool.not_eq_true', Bool.not_eq_false', decide_eq_true_eq, decide_eq_false_iff_not, beq_iff_eq, bne_iff_ne, beq_eq_false_iff_ne, bne_eq_false_iff_eq] at c11')
    refine wp_exit ?_
    refine hK2 _ _ ?_
    refine wp_seq_k fun K20 hK20 => ?_
    refine wp_region_lit ?_
    refine q_is (l' := [(.slice p_a L_a.length q_a), (Iv s.2), Ud, Ud, (u4 4), (Iv (s.1 : Int)), (Iv (s.1 : Int)), (.slice p_a L_a.length q_a), (Iv (L_a.length : Int)), (Bo (icmp .lss (s.1 : Int) (L_a.length : Int))), (u4 10), (u4 11), (u4 12), (u4 13), (u4 14), (u4 15), (u4 16), (u4 17), (u4 18), (u4 19), (Iv s.2)]) rfl rfl (does_move (u := (Iv s.2)) (ev rfl)) rfl ?_
    refine q_is (l' := [(.slice p_a L_a.length q_a), (Iv s.2), Ud, Ud, (Iv s.2), (Iv (s.1 : Int)), (Iv (s.1 : Int)), (.slice p_a L_a.length q_a), (Iv (L_a.length : Int)), (Bo (icmp .lss (s.1 : Int) (L_a.length : Int))), (u4 10), (u4 11), (u4 12), (u4 13), (u4 14), (u4 15), (u4 16), (u4 17), (u4 18), (u4 19), (Iv s.2)]) rfl rfl (does_assign (u := (Iv s.2)) (ev rfl)) rfl ?_
    refine wpList_nil (hK20 _ _ ?_)
    refine wp_ret ?_
    refine ret_val (v := (Iv s.2)) (res_T rfl (slot rfl)) X8 ?_
    have x21 : (k + (L_a.length : Int) * 1 : Int) = s.2 := by first | omega | (rw [hn2, show s.1 = L_a.length by omega])
    exact (by first | with_reducible rfl | rw [x21] | rfl)

end Go.Proofs.Ytedloefjdilbgaa
