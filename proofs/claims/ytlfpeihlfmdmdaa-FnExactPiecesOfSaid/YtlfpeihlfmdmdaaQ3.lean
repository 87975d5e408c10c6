/- contracts of functions, each walked once -/
import Derived.Test.YtlfpeihlfmdmdaaQ2
namespace Go.Proofs.Ytlfpeihlfmdmdaa
open Go Go.RowKit
set_option maxRecDepth 100000
set_option maxHeartbeats 3200000
set_option linter.unusedVariables false
set_option linter.unusedSimpArgs false

/- impl.isTriangle -/
theorem c_impl_isTriangle (t_ : Value) (L_t_ : List Int) (n_ : Int) (w : World) (hv_t_ : Sl RI 1 w t_ L_t_) : Gives Try.prog 51 #[t_, (Iv n_)] w (fun v w' => v = (Bo (triOk n_ L_t_))) := by
  have hlen_t_ := Sl.len hv_t_; obtain ⟨p_t_, q_t_, rfl⟩ := Sl.shape hv_t_
  refine enter [(.slice p_t_ L_t_.length q_t_), (Iv n_), Ud, Ud, Ud, Ud, Ud, Ud, Ud, Ud, Ud, Ud, Ud, Ud, Ud, Ud, Ud, Ud, Ud, Ud, Ud, Ud, Ud, Ud, Ud, Ud, Ud, Ud, Ud, Ud, Ud, Ud, Ud, Ud, Ud, Ud, Ud, Ud, Ud] Try.func51 rfl Try.ntmps51 rfl ?_
  refine wp_seq_k fun K1 hK1 => ?_
  refine wp_region_lit ?_
  refine seqd rfl rfl (does_box (u := (Iv n_)) (ev rfl)) ?_; rintro _ w6 ⟨b2, rfl, hb3, hB4, E5⟩
  have g7 : w.heap.size ≤ b2 := Nat.le_trans (Below.size (Ext.refl w)) hb3
  change Blk _ _ [(Iv n_)] at hB4
  have X8 := Ext.gr (Ext.refl w) E5
  show wpList _ _ _ _ (fr [_, _, _, _, _, _, _, _, _, _, _, _, _, _, _, _, _, _, _, _, _, _, _, _, _, _, _, _, _, _, _, _, _, _, _, _, _, _, _]) _
  refine q_is rfl rfl (does_assign (u := (Bo false)) (ev rfl)) (by dsimp only [List.set]; try rfl) ?_
  refine wpList_nil (hK1 _ _ ?_)
  refine wp_seq_k fun K9 hK9 => ?_
  refine wp_seq_k fun K10 hK10 => ?_
  obtain ⟨β1, hβ1⟩ : ∃ b : Bool, b = (icmp .neq (L_t_.length : Int) 3) := ⟨_, rfl⟩
  obtain ⟨el1, hel1⟩ := exists_el (0 : Int) L_t_ 0
  obtain ⟨el2, hel2⟩ := exists_el (0 : Int) L_t_ 1
  obtain ⟨β2, hβ2⟩ : ∃ b : Bool, b = (β1 || (icmp .eql el1 el2)) := ⟨_, rfl⟩
  obtain ⟨el3, hel3⟩ := exists_el (0 : Int) L_t_ 2
  obtain ⟨β3, hβ3⟩ : ∃ b : Bool, b = (β2 || (icmp .eql el2 el3)) := ⟨_, rfl⟩
  obtain ⟨β4, hβ4⟩ : ∃ b : Bool, b = (β3 || (icmp .eql el3 el1)) := ⟨_, rfl⟩
  refine region_draw (
    [Fact.pure [] (fun v => v = (.slice p_t_ L_t_.length q_t_)),
    Fact.pure [5] (fun v => v = (Iv (L_t_.length : Int))),
    Fact.pure [6] (fun v => v = (Bo β1)),
    Fact.pure [7] (fun v => v = (Bo β1)),
    Fact.pure [8] (fun v => β1 = false → v = (.slice p_t_ L_t_.length q_t_)),
    Fact.mem [9, 8] (fun v w' => β1 = false → PtrR RI w' v el1) (by intro v w1 w2 hx h; exact fun hg1 => (h hg1).ext RI.mono hx),
    Fact.pure [10, 8] (fun v => β1 = false → v = (Iv el1)),
    Fact.pure [8] (fun v => β1 = false → v = (.slice p_t_ L_t_.length q_t_)),
    Fact.mem [12, 8] (fun v w' => β1 = false → PtrR RI w' v el2) (by intro v w1 w2 hx h; exact fun hg1 => (h hg1).ext RI.mono hx),
    Fact.pure [13, 8] (fun v => β1 = false → v = (Iv el2)),
    Fact.pure [11, 14, 8] (fun v => β1 = false → v = (Bo (icmp .eql el1 el2))),
    Fact.pure [8, 15] (fun v => v = (Bo β2)),
    Fact.pure [16] (fun v => v = (Bo β2)),
    Fact.pure [17] (fun v => β2 = false → v = (.slice p_t_ L_t_.length q_t_)),
    Fact.mem [18, 17] (fun v w' => β2 = false → PtrR RI w' v el2) (by intro v w1 w2 hx h; exact fun hg1 => (h hg1).ext RI.mono hx),
    Fact.pure [19, 17] (fun v => β2 = false → v = (Iv el2)),
    Fact.pure [17] (fun v => β2 = false → v = (.slice p_t_ L_t_.length q_t_)),
    Fact.mem [21, 17] (fun v w' => β2 = false → PtrR RI w' v el3) (by intro v w1 w2 hx h; exact fun hg1 => (h hg1).ext RI.mono hx),
    Fact.pure [22, 17] (fun v => β2 = false → v = (Iv el3)),
    Fact.pure [20, 23, 17] (fun v => β2 = false → v = (Bo (icmp .eql el2 el3))),
    Fact.pure [17, 24] (fun v => v = (Bo β3)),
    Fact.pure [25] (fun v => v = (Bo β3)),
    Fact.pure [26] (fun v => β3 = false → v = (.slice p_t_ L_t_.length q_t_)),
    Fact.mem [27, 26] (fun v w' => β3 = false → PtrR RI w' v el3) (by intro v w1 w2 hx h; exact fun hg1 => (h hg1).ext RI.mono hx),
    Fact.pure [28, 26] (fun v => β3 = false → v = (Iv el3)),
    Fact.pure [26] (fun v => β3 = false → v = (.slice p_t_ L_t_.length q_t_)),
    Fact.mem [30, 26] (fun v w' => β3 = false → PtrR RI w' v el1) (by intro v w1 w2 hx h; exact fun hg1 => (h hg1).ext RI.mono hx),
    Fact.pure [31, 26] (fun v => β3 = false → v = (Iv el1)),
    Fact.pure [29, 32, 26] (fun v => β3 = false → v = (Bo (icmp .eql el3 el1))),
    Fact.pure [26, 33] (fun v => v = (Bo β4))]) mixed (by kernel_rfl) (by intro _ _ d _ _ h; cases d <;> exact h) ?_
  obtain ⟨w11, hw13⟩ : ∃ w', w' = World.drew w6 := ⟨_, rfl⟩; rw [← hw13]; have E12 : Ext w6 w11 := by rw [hw13]; exact Ext.draw _
  clear hw13
  have X14 := Ext.gr X8 E12
  refine RW_d _ rfl (fun v => by dsimp only [List.set]; try rfl) (fun u hu hF => ?_) (fun v15 => ?_)
  · clear hF
    refine doesG_un rfl ?_
    refine (does_move (u := (.slice p_t_ L_t_.length q_t_)) (ev rfl)).mono ?_; rintro _ _ ⟨rfl, rfl⟩
    exact ⟨rfl, Ext.refl _⟩
  refine RW_d _ rfl (fun v => by dsimp only [List.set]; try rfl) (fun u hu hF => ?_) (fun v16 => ?_)
  · have h5_ : v15 = (.slice p_t_ L_t_.length q_t_) := hF.1
    clear hF
    refine doesG_un rfl ?_
    obtain rfl := h5_
    refine (does_len_slice Try.underlying27 (ev rfl)).mono ?_; rintro _ _ ⟨rfl, rfl⟩
    exact ⟨rfl, Ext.refl _⟩
  refine RW_d _ rfl (fun v => by dsimp only [List.set]; try rfl) (fun u hu hF => ?_) (fun v17 => ?_)
  · have h6_ : v16 = (Iv (L_t_.length : Int)) := hF.1
    clear hF
    refine doesG_un rfl ?_
    obtain rfl := h6_
    refine (does_icmp (p := (L_t_.length : Int)) (q := 3) (.inr (.inl rfl)) (ev rfl) (ev rfl)).mono ?_; rintro _ _ ⟨rfl, rfl⟩
    exact ⟨(by first | rfl | (show _ = _; simp only [hβ1]; done) | (show _ = _; simp only [hβ1]; rfl)), Ext.refl _⟩
  refine RW_d _ rfl (fun v => by dsimp only [List.set]; try rfl) (fun u hu hF => ?_) (fun v18 => ?_)
  · have h7_ : v17 = (Bo β1) := hF.1
    clear hF
    refine doesG_un rfl ?_
    obtain rfl := h7_
    refine (does_move (u := (Bo β1)) (ev rfl)).mono ?_; rintro _ _ ⟨rfl, rfl⟩
    exact ⟨rfl, Ext.refl _⟩
  refine RW_d _ rfl (fun v => by dsimp only [List.set]; try rfl) (fun u hu hF => ?_) (fun v19 => ?_)
  · have h8_ : v18 = (Bo β1) := hF.1
    clear hF
    obtain rfl := h8_
    refine doesG_g (b := β1) rfl (yld rfl rfl) (fun hg1 => ?_) (fun hc => ⟨fun hg1 => absurd hg1 hc, Ext.refl _⟩)
    refine (does_move (u := (.slice p_t_ L_t_.length q_t_)) (ev rfl)).mono ?_; rintro _ _ ⟨rfl, rfl⟩
    exact ⟨fun _ => rfl, Ext.refl _⟩
  refine RW_d _ rfl (fun v => by dsimp only [List.set]; try rfl) (fun u hu hF => ?_) (fun v20 => ?_)
  · have h9_ : β1 = false → v19 = (.slice p_t_ L_t_.length q_t_) := hF.1
    have h8_ : v18 = (Bo β1) := hF.2.1
    clear hF
    obtain rfl := h8_
    refine doesG_g (b := β1) rfl (yld rfl rfl) (fun hg1 => ?_) (fun hc => ⟨fun hg1 => absurd hg1 hc, Ext.refl _⟩)
    obtain rfl := h9_ hg1
    refine (does_indexSl (R := RI) (i := 0) (xs := L_t_) (e := el1) Try.underlying27 Try.sizeOf2 (ev rfl) (ev rfl) (Sl.ext (Sl.ext hv_t_ RI.mono (Ext.gr X8 E12)) RI.mono hu) (by first | omega | (simp only [hβ1, icmp, Bool.or_eq_false_iff, Bool.not_eq_false', Bool.not_eq_true', decide_eq_true_eq, decide_eq_false_iff_not, bne_eq_false_iff_eq] at hg1; omega) | (simp only [hβ1, icmp, Bool.or_eq_false_iff, Bool.not_eq_false', Bool.not_eq_true', decide_eq_true_eq, decide_eq_false_iff_not, bne_eq_false_iff_eq] at hg1 hg2; omega)) (hel1 (by first | omega | (simp only [hβ1, icmp, Bool.or_eq_false_iff, Bool.not_eq_false', Bool.not_eq_true', bne_eq_false_iff_eq] at hg1; omega)))).mono ?_; rintro v u' ⟨b, of, cs, hv, hc, hR, hu'⟩; subst hu'
    exact ⟨fun _ => ⟨b, of, cs, hv, hc, hR⟩, Ext.refl _⟩
  refine RW_d _ rfl (fun v => by dsimp only [List.set]; try rfl) (fun u hu hF => ?_) (fun v21 => ?_)
  · have h10_ : β1 = false → PtrR RI u v20 el1 := hF.1
    have h8_ : v18 = (Bo β1) := hF.2.1
    clear hF
    obtain rfl := h8_
    refine doesG_g (b := β1) rfl (yld rfl rfl) (fun hg1 => ?_) (fun hc => ⟨fun hg1 => absurd hg1 hc, Ext.refl _⟩)
    obtain ⟨b10_, o10_, _, rfl, hc10_, rfl⟩ := h10_ hg1
    refine (does_load (u := (Iv el1)) (ev rfl) Try.isAgg2 (Cells.at hc10_ 0 rfl)).mono ?_; rintro _ _ ⟨rfl, rfl⟩
    exact ⟨fun _ => rfl, Ext.refl _⟩
  refine RW_d _ rfl (fun v => by dsimp only [List.set]; try rfl) (fun u hu hF => ?_) (fun v22 => ?_)
  · have h8_ : v18 = (Bo β1) := hF.1
    clear hF
    obtain rfl := h8_
    refine doesG_g (b := β1) rfl (yld rfl rfl) (fun hg1 => ?_) (fun hc => ⟨fun hg1 => absurd hg1 hc, Ext.refl _⟩)
    refine (does_move (u := (.slice p_t_ L_t_.length q_t_)) (ev rfl)).mono ?_; rintro _ _ ⟨rfl, rfl⟩
    exact ⟨fun _ => rfl, Ext.refl _⟩
  refine RW_d _ rfl (fun v => by dsimp only [List.set]; try rfl) (fun u hu hF => ?_) (fun v23 => ?_)
  · have h12_ : β1 = false → v22 = (.slice p_t_ L_t_.length q_t_) := hF.1
    have h8_ : v18 = (Bo β1) := hF.2.1
    clear hF
    obtain rfl := h8_
    refine doesG_g (b := β1) rfl (yld rfl rfl) (fun hg1 => ?_) (fun hc => ⟨fun hg1 => absurd hg1 hc, Ext.refl _⟩)
    obtain rfl := h12_ hg1
    refine (does_indexSl (R := RI) (i := 1) (xs := L_t_) (e := el2) Try.underlying27 Try.sizeOf2 (ev rfl) (ev rfl) (Sl.ext (Sl.ext hv_t_ RI.mono (Ext.gr X8 E12)) RI.mono hu) (by first | omega | (simp only [hβ1, icmp, Bool.or_eq_false_iff, Bool.not_eq_false', Bool.not_eq_true', decide_eq_true_eq, decide_eq_false_iff_not, bne_eq_false_iff_eq] at hg1; omega) | (simp only [hβ1, icmp, Bool.or_eq_false_iff, Bool.not_eq_false', Bool.not_eq_true', decide_eq_true_eq, decide_eq_false_iff_not, bne_eq_false_iff_eq] at hg1 hg2; omega)) (hel2 (by first | omega | (simp only [hβ1, icmp, Bool.or_eq_false_iff, Bool.not_eq_false', Bool.not_eq_true', bne_eq_false_iff_eq] at hg1; omega)))).mono ?_; rintro v u' ⟨b, of, cs, hv, hc, hR, hu'⟩; subst hu'
    exact ⟨fun _ => ⟨b, of, cs, hv, hc, hR⟩, Ext.refl _⟩
  refine RW_d _ rfl (fun v => by dsimp only [List.set]; try rfl) (fun u hu hF => ?_) (fun v24 => ?_)
  · have h13_ : β1 = false → PtrR RI u v23 el2 := hF.1
    have h8_ : v18 = (Bo β1) := hF.2.1
    clear hF
    obtain rfl := h8_
    refine doesG_g (b := β1) rfl (yld rfl rfl) (fun hg1 => ?_) (fun hc => ⟨fun hg1 => absurd hg1 hc, Ext.refl _⟩)
    obtain ⟨b13_, o13_, _, rfl, hc13_, rfl⟩ := h13_ hg1
    refine (does_load (u := (Iv el2)) (ev rfl) Try.isAgg2 (Cells.at hc13_ 0 rfl)).mono ?_; rintro _ _ ⟨rfl, rfl⟩
    exact ⟨fun _ => rfl, Ext.refl _⟩
  refine RW_d _ rfl (fun v => by dsimp only [List.set]; try rfl) (fun u hu hF => ?_) (fun v25 => ?_)
  · have h11_ : β1 = false → v21 = (Iv el1) := hF.1
    have h14_ : β1 = false → v24 = (Iv el2) := hF.2.1
    have h8_ : v18 = (Bo β1) := hF.2.2.1
    clear hF
    obtain rfl := h8_
    refine doesG_g (b := β1) rfl (yld rfl rfl) (fun hg1 => ?_) (fun hc => ⟨fun hg1 => absurd hg1 hc, Ext.refl _⟩)
    obtain rfl := h11_ hg1
    obtain rfl := h14_ hg1
    refine (does_icmp (p := el1) (q := el2) (.inl rfl) (ev rfl) (ev rfl)).mono ?_; rintro _ _ ⟨rfl, rfl⟩
    exact ⟨fun _ => rfl, Ext.refl _⟩
  refine RW_d _ rfl (fun v => by dsimp only [List.set]; try rfl) (fun u hu hF => ?_) (fun v26 => ?_)
  · have h8_ : v18 = (Bo β1) := hF.1
    have h15_ : β1 = false → v25 = (Bo (icmp .eql el1 el2)) := hF.2.1
    clear hF
    refine doesG_un rfl ?_
    skip
    obtain rfl := h8_
    refine (does_pick (b := β1) (u := (Bo true)) (v := v25) (ev rfl) (ev rfl) (ev rfl)).mono ?_; rintro _ _ ⟨rfl, rfl⟩; refine ⟨?_, Ext.refl _⟩; rw [hβ2]; skip
    cases hbb : β1
    all_goals first | (show _ = _; simp only [↓reduceIte, Bool.true_and, Bool.false_and, Bool.true_or, Bool.false_or, Bool.false_eq_true]; done) | (have e_ := h15_ hbb; subst e_; show _ = _; simp only [↓reduceIte, Bool.true_and, Bool.false_and, Bool.true_or, Bool.false_or, Bool.false_eq_true]; done) | rfl | (have e_ := h15_ hbb; subst e_; rfl) | (simp [hbb] at h15_ ⊢; first | done | rfl | (subst h15_; rfl) | simp_all) | (simp [hbb] at h15_ ⊢; done)
  refine RW_d _ rfl (fun v => by dsimp only [List.set]; try rfl) (fun u hu hF => ?_) (fun v27 => ?_)
  · have h16_ : v26 = (Bo β2) := hF.1
    clear hF
    refine doesG_un rfl ?_
    obtain rfl := h16_
    refine (does_move (u := (Bo β2)) (ev rfl)).mono ?_; rintro _ _ ⟨rfl, rfl⟩
    exact ⟨rfl, Ext.refl _⟩
  refine RW_d _ rfl (fun v => by dsimp only [List.set]; try rfl) (fun u hu hF => ?_) (fun v28 => ?_)
  · have h17_ : v27 = (Bo β2) := hF.1
    clear hF
    obtain rfl := h17_
    refine doesG_g (b := β2) rfl (yld rfl rfl) (fun hg1 => ?_) (fun hc => ⟨fun hg1 => absurd hg1 hc, Ext.refl _⟩)
    refine (does_move (u := (.slice p_t_ L_t_.length q_t_)) (ev rfl)).mono ?_; rintro _ _ ⟨rfl, rfl⟩
    exact ⟨fun _ => rfl, Ext.refl _⟩
  refine RW_d _ rfl (fun v => by dsimp only [List.set]; try rfl) (fun u hu hF => ?_) (fun v29 => ?_)
  · have h18_ : β2 = false → v28 = (.slice p_t_ L_t_.length q_t_) := hF.1
    have h17_ : v27 = (Bo β2) := hF.2.1
    clear hF
    obtain rfl := h17_
    refine doesG_g (b := β2) rfl (yld rfl rfl) (fun hg1 => ?_) (fun hc => ⟨fun hg1 => absurd hg1 hc, Ext.refl _⟩)
    obtain rfl := h18_ hg1
    refine (does_indexSl (R := RI) (i := 1) (xs := L_t_) (e := el2) Try.underlying27 Try.sizeOf2 (ev rfl) (ev rfl) (Sl.ext (Sl.ext hv_t_ RI.mono (Ext.gr X8 E12)) RI.mono hu) (by first | omega | (simp only [hβ1, hβ2, icmp, Bool.or_eq_false_iff, Bool.not_eq_false', Bool.not_eq_true', decide_eq_true_eq, decide_eq_false_iff_not, bne_eq_false_iff_eq] at hg1; omega) | (simp only [hβ1, hβ2, icmp, Bool.or_eq_false_iff, Bool.not_eq_false', Bool.not_eq_true', decide_eq_true_eq, decide_eq_false_iff_not, bne_eq_false_iff_eq] at hg1 hg2; omega)) (hel2 (by first | omega | (simp only [hβ1, hβ2, icmp, Bool.or_eq_false_iff, Bool.not_eq_false', Bool.not_eq_true', bne_eq_false_iff_eq] at hg1; omega)))).mono ?_; rintro v u' ⟨b, of, cs, hv, hc, hR, hu'⟩; subst hu'
    exact ⟨fun _ => ⟨b, of, cs, hv, hc, hR⟩, Ext.refl _⟩
  refine RW_d _ rfl (fun v => by dsimp only [List.set]; try rfl) (fun u hu hF => ?_) (fun v30 => ?_)
  · have h19_ : β2 = false → PtrR RI u v29 el2 := hF.1
    have h17_ : v27 = (Bo β2) := hF.2.1
    clear hF
    obtain rfl := h17_
    refine doesG_g (b := β2) rfl (yld rfl rfl) (fun hg1 => ?_) (fun hc => ⟨fun hg1 => absurd hg1 hc, Ext.refl _⟩)
    obtain ⟨b19_, o19_, _, rfl, hc19_, rfl⟩ := h19_ hg1
    refine (does_load (u := (Iv el2)) (ev rfl) Try.isAgg2 (Cells.at hc19_ 0 rfl)).mono ?_; rintro _ _ ⟨rfl, rfl⟩
    exact ⟨fun _ => rfl, Ext.refl _⟩
  refine RW_d _ rfl (fun v => by dsimp only [List.set]; try rfl) (fun u hu hF => ?_) (fun v31 => ?_)
  · have h17_ : v27 = (Bo β2) := hF.1
    clear hF
    obtain rfl := h17_
    refine doesG_g (b := β2) rfl (yld rfl rfl) (fun hg1 => ?_) (fun hc => ⟨fun hg1 => absurd hg1 hc, Ext.refl _⟩)
    refine (does_move (u := (.slice p_t_ L_t_.length q_t_)) (ev rfl)).mono ?_; rintro _ _ ⟨rfl, rfl⟩
    exact ⟨fun _ => rfl, Ext.refl _⟩
  refine RW_d _ rfl (fun v => by dsimp only [List.set]; try rfl) (fun u hu hF => ?_) (fun v32 => ?_)
  · have h21_ : β2 = false → v31 = (.slice p_t_ L_t_.length q_t_) := hF.1
    have h17_ : v27 = (Bo β2) := hF.2.1
    clear hF
    obtain rfl := h17_
    refine doesG_g (b := β2) rfl (yld rfl rfl) (fun hg1 => ?_) (fun hc => ⟨fun hg1 => absurd hg1 hc, Ext.refl _⟩)
    obtain rfl := h21_ hg1
    refine (does_indexSl (R := RI) (i := 2) (xs := L_t_) (e := el3) Try.underlying27 Try.sizeOf2 (ev rfl) (ev rfl) (Sl.ext (Sl.ext hv_t_ RI.mono (Ext.gr X8 E12)) RI.mono hu) (by first | omega | (simp only [hβ1, hβ2, icmp, Bool.or_eq_false_iff, Bool.not_eq_false', Bool.not_eq_true', decide_eq_true_eq, decide_eq_false_iff_not, bne_eq_false_iff_eq] at hg1; omega) | (simp only [hβ1, hβ2, icmp, Bool.or_eq_false_iff, Bool.not_eq_false', Bool.not_eq_true', decide_eq_true_eq, decide_eq_false_iff_not, bne_eq_false_iff_eq] at hg1 hg2; omega)) (hel3 (by first | omega | (simp only [hβ1, hβ2, icmp, Bool.or_eq_false_iff, Bool.not_eq_false', Bool.not_eq_true', bne_eq_false_iff_eq] at hg1; omega)))).mono ?_; rintro v u' ⟨b, of, cs, hv, hc, hR, hu'⟩; subst hu'
    exact ⟨fun _ => ⟨b, of, cs, hv, hc, hR⟩, Ext.refl _⟩
  refine RW_d _ rfl (fun v => by dsimp only [List.set]; try rfl) (fun u hu hF => ?_) (fun v33 => ?_)
  · have h22_ : β2 = false → PtrR RI u v32 el3 := hF.1
    have h17_ : v27 = (Bo β2) := hF.2.1
    clear hF
    obtain rfl := h17_
    refine doesG_g (b := β2) rfl (yld rfl rfl) (fun hg1 => ?_) (fun hc => ⟨fun hg1 => absurd hg1 hc, Ext.refl _⟩)
    obtain ⟨b22_, o22_, _, rfl, hc22_, rfl⟩ := h22_ hg1
    refine (does_load (u := (Iv el3)) (ev rfl) Try.isAgg2 (Cells.at hc22_ 0 rfl)).mono ?_; rintro _ _ ⟨rfl, rfl⟩
    exact ⟨fun _ => rfl, Ext.refl _⟩
  refine RW_d _ rfl (fun v => by dsimp only [List.set]; try rfl) (fun u hu hF => ?_) (fun v34 => ?_)
  · have h20_ : β2 = false → v30 = (Iv el2) := hF.1
    have h23_ : β2 = false → v33 = (Iv el3) := hF.2.1
    have h17_ : v27 = (Bo β2) := hF.2.2.1
    clear hF
    obtain rfl := h17_
    refine doesG_g (b := β2) rfl (yld rfl rfl) (fun hg1 => ?_) (fun hc => ⟨fun hg1 => absurd hg1 hc, Ext.refl _⟩)
    obtain rfl := h20_ hg1
    obtain rfl := h23_ hg1
    refine (does_icmp (p := el2) (q := el3) (.inl rfl) (ev rfl) (ev rfl)).mono ?_; rintro _ _ ⟨rfl, rfl⟩
    exact ⟨fun _ => rfl, Ext.refl _⟩
  refine RW_d _ rfl (fun v => by dsimp only [List.set]; try rfl) (fun u hu hF => ?_) (fun v35 => ?_)
  · have h17_ : v27 = (Bo β2) := hF.1
    have h24_ : β2 = false → v34 = (Bo (icmp .eql el2 el3)) := hF.2.1
    clear hF
    refine doesG_un rfl ?_
    skip
    obtain rfl := h17_
    refine (does_pick (b := β2) (u := (Bo true)) (v := v34) (ev rfl) (ev rfl) (ev rfl)).mono ?_; rintro _ _ ⟨rfl, rfl⟩; refine ⟨?_, Ext.refl _⟩; rw [hβ3]; skip
    cases hbb : β2
    all_goals first | (show _ = _; simp only [↓reduceIte, Bool.true_and, Bool.false_and, Bool.true_or, Bool.false_or, Bool.false_eq_true]; done) | (have e_ := h24_ hbb; subst e_; show _ = _; simp only [↓reduceIte, Bool.true_and, Bool.false_and, Bool.true_or, Bool.false_or, Bool.false_eq_true]; done) | rfl | (have e_ := h24_ hbb; subst e_; rfl) | (simp [hbb] at h24_ ⊢; first | done | rfl | (subst h24_; rfl) | simp_all) | (simp [hbb] at h24_ ⊢; done)
  refine RW_d _ rfl (fun v => by dsimp only [List.set]; try rfl) (fun u hu hF => ?_) (fun v36 => ?_)
  · have h25_ : v35 = (Bo β3) := hF.1
    clear hF
    refine doesG_un rfl ?_
    obtain rfl := h25_
    refine (does_move (u := (Bo β3)) (ev rfl)).mono ?_; rintro _ _ ⟨rfl, rfl⟩
    exact ⟨rfl, Ext.refl _⟩
  refine RW_d _ rfl (fun v => by dsimp only [List.set]; try rfl) (fun u hu hF => ?_) (fun v37 => ?_)
  · have h26_ : v36 = (Bo β3) := hF.1
    clear hF
    obtain rfl := h26_
    refine doesG_g (b := β3) rfl (yld rfl rfl) (fun hg1 => ?_) (fun hc => ⟨fun hg1 => absurd hg1 hc, Ext.refl _⟩)
    refine (does_move (u := (.slice p_t_ L_t_.length q_t_)) (ev rfl)).mono ?_; rintro _ _ ⟨rfl, rfl⟩
    exact ⟨fun _ => rfl, Ext.refl _⟩
  refine RW_d _ rfl (fun v => by dsimp only [List.set]; try rfl) (fun u hu hF => ?_) (fun v38 => ?_)
  · have h27_ : β3 = false → v37 = (.slice p_t_ L_t_.length q_t_) := hF.1
    have h26_ : v36 = (Bo β3) := hF.2.1
    clear hF
    obtain rfl := h26_
    refine doesG_g (b := β3) rfl (yld rfl rfl) (fun hg1 => ?_) (fun hc => ⟨fun hg1 => absurd hg1 hc, Ext.refl _⟩)
    obtain rfl := h27_ hg1
    refine (does_indexSl (R := RI) (i := 2) (xs := L_t_) (e := el3) Try.underlying27 Try.sizeOf2 (ev rfl) (ev rfl) (Sl.ext (Sl.ext hv_t_ RI.mono (Ext.gr X8 E12)) RI.mono hu) (by first | omega | (simp only [hβ1, hβ2, hβ3, icmp, Bool.or_eq_false_iff, Bool.not_eq_false', Bool.not_eq_true', decide_eq_true_eq, decide_eq_false_iff_not, bne_eq_false_iff_eq] at hg1; omega) | (simp only [hβ1, hβ2, hβ3, icmp, Bool.or_eq_false_iff, Bool.not_eq_false', Bool.not_eq_true', decide_eq_true_eq, decide_eq_false_iff_not, bne_eq_false_iff_eq] at hg1 hg2; omega)) (hel3 (by first | omega | (simp only [hβ1, hβ2, hβ3, icmp, Bool.or_eq_false_iff, Bool.not_eq_false', Bool.not_eq_true', bne_eq_false_iff_eq] at hg1; omega)))).mono ?_; rintro v u' ⟨b, of, cs, hv, hc, hR, hu'⟩; subst hu'
    exact ⟨fun _ => ⟨b, of, cs, hv, hc, hR⟩, Ext.refl _⟩
  refine RW_d _ rfl (fun v => by dsimp only [List.set]; try rfl) (fun u hu hF => ?_) (fun v39 => ?_)
  · have h28_ : β3 = false → PtrR RI u v38 el3 := hF.1
    have h26_ : v36 = (Bo β3) := hF.2.1
    clear hF
    obtain rfl := h26_
    refine doesG_g (b := β3) rfl (yld rfl rfl) (fun hg1 => ?_) (fun hc => ⟨fun hg1 => absurd hg1 hc, Ext.refl _⟩)
    obtain ⟨b28_, o28_, _, rfl, hc28_, rfl⟩ := h28_ hg1
    refine (does_load (u := (Iv el3)) (ev rfl) Try.isAgg2 (Cells.at hc28_ 0 rfl)).mono ?_; rintro _ _ ⟨rfl, rfl⟩
    exact ⟨fun _ => rfl, Ext.refl _⟩
  refine RW_d _ rfl (fun v => by dsimp only [List.set]; try rfl) (fun u hu hF => ?_) (fun v40 => ?_)
  · have h26_ : v36 = (Bo β3) := hF.1
    clear hF
    obtain rfl := h26_
    refine doesG_g (b := β3) rfl (yld rfl rfl) (fun hg1 => ?_) (fun hc => ⟨fun hg1 => absurd hg1 hc, Ext.refl _⟩)
    refine (does_move (u := (.slice p_t_ L_t_.length q_t_)) (ev rfl)).mono ?_; rintro _ _ ⟨rfl, rfl⟩
    exact ⟨fun _ => rfl, Ext.refl _⟩
  refine RW_d _ rfl (fun v => by dsimp only [List.set]; try rfl) (fun u hu hF => ?_) (fun v41 => ?_)
  · have h30_ : β3 = false → v40 = (.slice p_t_ L_t_.length q_t_) := hF.1
    have h26_ : v36 = (Bo β3) := hF.2.1
    clear hF
    obtain rfl := h26_
    refine doesG_g (b := β3) rfl (yld rfl rfl) (fun hg1 => ?_) (fun hc => ⟨fun hg1 => absurd hg1 hc, Ext.refl _⟩)
    obtain rfl := h30_ hg1
    refine (does_indexSl (R := RI) (i := 0) (xs := L_t_) (e := el1) Try.underlying27 Try.sizeOf2 (ev rfl) (ev rfl) (Sl.ext (Sl.ext hv_t_ RI.mono (Ext.gr X8 E12)) RI.mono hu) (by first | omega | (simp only [hβ1, hβ2, hβ3, icmp, Bool.or_eq_false_iff, Bool.not_eq_false', Bool.not_eq_true', decide_eq_true_eq, decide_eq_false_iff_not, bne_eq_false_iff_eq] at hg1; omega) | (simp only [hβ1, hβ2, hβ3, icmp, Bool.or_eq_false_iff, Bool.not_eq_false', Bool.not_eq_true', decide_eq_true_eq, decide_eq_false_iff_not, bne_eq_false_iff_eq] at hg1 hg2; omega)) (hel1 (by first | omega | (simp only [hβ1, hβ2, hβ3, icmp, Bool.or_eq_false_iff, Bool.not_eq_false', Bool.not_eq_true', bne_eq_false_iff_eq] at hg1; omega)))).mono ?_; rintro v u' ⟨b, of, cs, hv, hc, hR, hu'⟩; subst hu'
    exact ⟨fun _ => ⟨b, of, cs, hv, hc, hR⟩, Ext.refl _⟩
  refine RW_d _ rfl (fun v => by dsimp only [List.set]; try rfl) (fun u hu hF => ?_) (fun v42 => ?_)
  · have h31_ : β3 = false → PtrR RI u v41 el1 := hF.1
    have h26_ : v36 = (Bo β3) := hF.2.1
    clear hF
    obtain rfl := h26_
    refine doesG_g (b := β3) rfl (yld rfl rfl) (fun hg1 => ?_) (fun hc => ⟨fun hg1 => absurd hg1 hc, Ext.refl _⟩)
    obtain ⟨b31_, o31_, _, rfl, hc31_, rfl⟩ := h31_ hg1
    refine (does_load (u := (Iv el1)) (ev rfl) Try.isAgg2 (Cells.at hc31_ 0 rfl)).mono ?_; rintro _ _ ⟨rfl, rfl⟩
    exact ⟨fun _ => rfl, Ext.refl _⟩
  refine RW_d _ rfl (fun v => by dsimp only [List.set]; try rfl) (fun u hu hF => ?_) (fun v43 => ?_)
  · have h29_ : β3 = false → v39 = (Iv el3) := hF.1
    have h32_ : β3 = false → v42 = (Iv el1) := hF.2.1
    have h26_ : v36 = (Bo β3) := hF.2.2.1
    clear hF
    obtain rfl := h26_
    refine doesG_g (b := β3) rfl (yld rfl rfl) (fun hg1 => ?_) (fun hc => ⟨fun hg1 => absurd hg1 hc, Ext.refl _⟩)
    obtain rfl := h29_ hg1
    obtain rfl := h32_ hg1
    refine (does_icmp (p := el3) (q := el1) (.inl rfl) (ev rfl) (ev rfl)).mono ?_; rintro _ _ ⟨rfl, rfl⟩
    exact ⟨fun _ => rfl, Ext.refl _⟩
  refine RW_d _ rfl (fun v => by dsimp only [List.set]; try rfl) (fun u hu hF => ?_) (fun v44 => ?_)
  · have h26_ : v36 = (Bo β3) := hF.1
    have h33_ : β3 = false → v43 = (Bo (icmp .eql el3 el1)) := hF.2.1
    clear hF
    refine doesG_un rfl ?_
    skip
    obtain rfl := h26_
    refine (does_pick (b := β3) (u := (Bo true)) (v := v43) (ev rfl) (ev rfl) (ev rfl)).mono ?_; rintro _ _ ⟨rfl, rfl⟩; refine ⟨?_, Ext.refl _⟩; rw [hβ4]; skip
    cases hbb : β3
    all_goals first | (show _ = _; simp only [↓reduceIte, Bool.true_and, Bool.false_and, Bool.true_or, Bool.false_or, Bool.false_eq_true]; done) | (have e_ := h33_ hbb; subst e_; show _ = _; simp only [↓reduceIte, Bool.true_and, Bool.false_and, Bool.true_or, Bool.false_or, Bool.false_eq_true]; done) | rfl | (have e_ := h33_ hbb; subst e_; rfl) | (simp [hbb] at h33_ ⊢; first | done | rfl | (subst h33_; rfl) | simp_all) | (simp [hbb] at h33_ ⊢; done)
  refine RW_fin ?_; intro w45 E46 hP47
  obtain ⟨⟨⟨⟨⟨⟨⟨⟨⟨⟨⟨⟨⟨⟨⟨⟨⟨⟨⟨⟨⟨⟨⟨⟨⟨⟨⟨⟨⟨⟨-, -⟩, -⟩, -⟩, -⟩, -⟩, -⟩, -⟩, -⟩, -⟩, -⟩, -⟩, -⟩, -⟩, -⟩, -⟩, -⟩, -⟩, -⟩, -⟩, -⟩, -⟩, -⟩, -⟩, -⟩, -⟩, -⟩, -⟩, -⟩, -⟩, q48⟩ := hP47
  have X49 := Ext.gr X14 E46
  have q48 : v44 = (Bo β4) := q48
  obtain rfl := q48
  show wpList _ _ _ _ (fr [_, _, _, _, _, _, _, _, _, _, _, _, _, _, _, _, _, _, _, _, _, _, _, _, _, _, _, _, _, _, _, _, _, _, _, _, _, _, _]) _
  refine wpList_nil (hK10 _ _ ?_)
  refine wp_cond_split (t := β4) (ev rfl) (fun c50 => ?_) (fun c50 => ?_)
  · have c50' := c50
    (try simp only [hβ1, hβ2, hβ3, hβ4] at c50')
    (try simp only [icmp, Bool.and_eq_true, Bool.or_eq_true, Bool.and_eq_false_iff, Bool.or_eq_false_iff, Bool.not_eq_true', Bool.not_eq_false', decide_eq_true_eq, decide_eq_false_iff_not, beq_iff_eq, bne_iff_ne, beq_eq_false_iff_ne, bne_eq_false_iff_eq] at c50')
    refine wp_seq_k fun K51 hK51 => ?_
    refine wp_region_lit ?_
    refine q_is rfl rfl (does_assign (u := (Bo false)) (ev rfl)) (by dsimp only [List.set]; try rfl) ?_
    refine wpList_nil (hK51 _ _ ?_)
    refine wp_ret ?_
    dsimp only [Exit.then, Exit.inBlock]
    refine ret_val (v := (Bo false)) (res_T rfl (slot rfl)) X49 ?_
    try simp only [hβ1, hβ2, hβ3, hβ4] at c50
    have x52 : (triOk n_ L_t_) = false := by first | exact triOk_bad (by assumption) (by assumption) (by assumption) (by assumption) | exact triOk_any (by assumption) (by assumption) (by assumption) (by assumption)
    exact (by first | with_reducible rfl | rw [x52] | rfl)
  have c50' := c50
  (try simp only [hβ1, hβ2, hβ3, hβ4] at c50')
  (try simp only [icmp, Bool.and_eq_true, Bool.or_eq_true, Bool.and_eq_false_iff, Bool.or_eq_false_iff, Bool.not_eq_true', Bool.not_eq_false', decide_eq_true_eq, decide_eq_false_iff_not, beq_iff_eq, bne_iff_ne, beq_eq_false_iff_ne, bne_eq_false_iff_eq] at c50')
  refine wp_skip (hK9 _ _ ?_)
  refine wp_seq_k fun K53 hK53 => ?_
  refine wp_region_lit ?_
  refine q_is rfl rfl (does_move (u := (.slice p_t_ L_t_.length q_t_)) (ev rfl)) (by dsimp only [List.set]; try rfl) ?_
  refine q_is rfl rfl (does_makeFunc (u := (.func (.func 63) #[] #[(Pt b2 0)])) (evs rfl) (evs rfl) rfl) (by dsimp only [List.set]; try rfl) ?_
  refine seqd rfl rfl (does_call (args := #[(.slice p_t_ L_t_.length q_t_), (.func (.func 63) #[] #[(Pt b2 0)])]) cal62 (evs rfl) (c_slices_ContainsFunc_int64_int64 (.slice p_t_ L_t_.length q_t_) L_t_ (.func (.func 63) #[] #[(Pt b2 0)]) (fun x => !inI x 0 (IntKind.i64.wrap (n_ - 1))) _ (Sl.ext hv_t_ RI.mono X49) ⟨63, #[], #[(Pt b2 0)], rfl, cal63, fun n0 u hu'  => by simpa using (c_impl_isTriangle_1 n0 b2 0 n_ u (Blk.cells (((hB4.ext E12).ext E46).ext hu')))⟩)) ?_; rintro _ w55 ⟨E54, rfl⟩
  have X56 := Ext.gr X49 E54
  show wpList _ _ _ _ (fr [_, _, _, _, _, _, _, _, _, _, _, _, _, _, _, _, _, _, _, _, _, _, _, _, _, _, _, _, _, _, _, _, _, _, _, _, _, _, _]) _
  refine q_is rfl rfl (does_not (ev rfl)) (by dsimp only [List.set]; try rfl) ?_
  refine q_is rfl rfl (does_assign (u := (Bo (!(L_t_.any (fun x => !inI x 0 (IntKind.i64.wrap (n_ - 1))))))) (ev rfl)) (by dsimp only [List.set]; try rfl) ?_
  refine wpList_nil (hK53 _ _ ?_)
  refine wp_ret ?_
  refine ret_val (v := (Bo (!(L_t_.any (fun x => !inI x 0 (IntKind.i64.wrap (n_ - 1))))))) (res_T rfl (slot rfl)) X56 ?_
  try simp only [hβ1, hβ2, hβ3, hβ4] at c50
  have x57 : (triOk n_ L_t_) = (!(L_t_.any (fun x => !inI x 0 (IntKind.i64.wrap (n_ - 1))))) := by first | exact triOk_bad (by assumption) (by assumption) (by assumption) (by assumption) | exact triOk_any (by assumption) (by assumption) (by assumption) (by assumption)
  exact (by first | with_reducible rfl | rw [x57] | rfl)

/- impl.ValidMesh$1 -/
theorem c_impl_ValidMesh_1 (t_ : Value) (L_t_ : List Int) (m_b : Nat) (m_o : Nat) (m : List Value) (A_m : MeshT) (w : World) (hv_t_ : Sl RI 1 w t_ L_t_) (hc_m : Cells w m_b m_o m) (hv_m : RMeshT w A_m m) : Gives Try.prog 50 #[t_, (Pt m_b m_o)] w (fun v w' => v = (Bo (!triOk (A_m.places.length : Int) L_t_))) := by
  have hlen_t_ := Sl.len hv_t_; obtain ⟨p_t_, q_t_, rfl⟩ := Sl.shape hv_t_
  obtain ⟨y1, y3, rfl, h2, h4⟩ := hv_m
  have hs7 := h2; have hs7l := Sl.len h2; obtain ⟨p5, q6, rfl⟩ := Sl.shape h2
  have hs10 := h4; have hs10l := Sl.len h4; obtain ⟨p8, q9, rfl⟩ := Sl.shape h4
  refine enter [(.slice p_t_ L_t_.length q_t_), (Pt m_b m_o), Ud, Ud, Ud, Ud, Ud, Ud, Ud, Ud] Try.func50 rfl Try.ntmps50 rfl ?_
  refine wp_seq_k fun K11 hK11 => ?_
  refine wp_region_lit ?_
  refine q_is (l' := [(.slice p_t_ L_t_.length q_t_), (Pt m_b m_o), Ud, (Bo false), Ud, Ud, Ud, Ud, Ud, Ud]) rfl rfl (does_assign (u := (Bo false)) (ev rfl)) rfl ?_
  refine wpList_nil (hK11 _ _ ?_)
  refine wp_seq_k fun K12 hK12 => ?_
  refine wp_region_lit ?_
  refine q_is (l' := [(.slice p_t_ L_t_.length q_t_), (Pt m_b m_o), Ud, (Bo false), (.slice p_t_ L_t_.length q_t_), Ud, Ud, Ud, Ud, Ud]) rfl rfl (does_move (u := (.slice p_t_ L_t_.length q_t_)) (ev rfl)) rfl ?_
  refine q_is (l' := [(.slice p_t_ L_t_.length q_t_), (Pt m_b m_o), Ud, (Bo false), (.slice p_t_ L_t_.length q_t_), (Pt m_b m_o), Ud, Ud, Ud, Ud]) rfl rfl (does_fieldAddr (ev rfl) fa32_0) rfl ?_
  refine q_is (l' := [(.slice p_t_ L_t_.length q_t_), (Pt m_b m_o), Ud, (Bo false), (.slice p_t_ L_t_.length q_t_), (Pt m_b m_o), (.slice p5 A_m.places.length q6), Ud, Ud, Ud]) rfl rfl (does_load (u := (.slice p5 A_m.places.length q6)) (ev rfl) Try.isAgg30 (Cells.at hc_m 0 rfl)) rfl ?_
  refine q_is (l' := [(.slice p_t_ L_t_.length q_t_), (Pt m_b m_o), Ud, (Bo false), (.slice p_t_ L_t_.length q_t_), (Pt m_b m_o), (.slice p5 A_m.places.length q6), (Iv (A_m.places.length : Int)), Ud, Ud]) rfl rfl (does_len_slice Try.underlying30 (ev rfl)) rfl ?_
  refine seqd rfl rfl (does_call (args := #[(.slice p_t_ L_t_.length q_t_), (Iv (A_m.places.length : Int))]) cal51 (evs rfl) (c_impl_isTriangle (.slice p_t_ L_t_.length q_t_) L_t_ (A_m.places.length : Int) _ hv_t_)) ?_; rintro _ w14 ⟨E13, rfl⟩
  have X15 := Ext.gr (Ext.refl w) E13
  show wpList _ _ _ _ (fr [(.slice p_t_ L_t_.length q_t_), (Pt m_b m_o), Ud, (Bo false), (.slice p_t_ L_t_.length q_t_), (Pt m_b m_o), (.slice p5 A_m.places.length q6), (Iv (A_m.places.length : Int)), (Bo (triOk (A_m.places.length : Int) L_t_)), Ud]) _
  refine q_is (l' := [(.slice p_t_ L_t_.length q_t_), (Pt m_b m_o), Ud, (Bo false), (.slice p_t_ L_t_.length q_t_), (Pt m_b m_o), (.slice p5 A_m.places.length q6), (Iv (A_m.places.length : Int)), (Bo (triOk (A_m.places.length : Int) L_t_)), (Bo (!(triOk (A_m.places.length : Int) L_t_)))]) rfl rfl (does_not (ev rfl)) rfl ?_
  refine q_is (l' := [(.slice p_t_ L_t_.length q_t_), (Pt m_b m_o), Ud, (Bo (!(triOk (A_m.places.length : Int) L_t_))), (.slice p_t_ L_t_.length q_t_), (Pt m_b m_o), (.slice p5 A_m.places.length q6), (Iv (A_m.places.length : Int)), (Bo (triOk (A_m.places.length : Int) L_t_)), (Bo (!(triOk (A_m.places.length : Int) L_t_)))]) rfl rfl (does_assign (u := (Bo (!(triOk (A_m.places.length : Int) L_t_)))) (ev rfl)) rfl ?_
  refine wpList_nil (hK12 _ _ ?_)
  refine wp_ret ?_
  refine ret_val (v := (Bo (!(triOk (A_m.places.length : Int) L_t_)))) (res_T rfl (slot rfl)) X15 ?_
  have x16 : (!triOk (A_m.places.length : Int) L_t_) = (!(triOk (A_m.places.length : Int) L_t_)) := by first | with_reducible rfl | (simp only []; done) | (simp []; done) | rfl
  exact (by first | with_reducible rfl | rw [x16] | rfl)

/- impl.ValidMesh -/
theorem c_impl_ValidMesh (m : List Value) (A_m : MeshT) (w : World) (hv_m : RMeshT w A_m m) : Gives Try.prog 26 #[(.agg m.toArray)] w (fun v w' => v = (Bo (meshOk A_m))) := by
  obtain ⟨y1, y3, rfl, h2, h4⟩ := hv_m
  have hs7 := h2; have hs7l := Sl.len h2; obtain ⟨p5, q6, rfl⟩ := Sl.shape h2
  have hs10 := h4; have hs10l := Sl.len h4; obtain ⟨p8, q9, rfl⟩ := Sl.shape h4
  refine enter [(.agg #[(.slice p5 A_m.places.length q6), (.slice p8 A_m.tris.length q9)]), Ud, Ud, Ud, Ud, Ud, Ud, Ud, Ud, Ud, Ud, Ud, Ud, Ud, Ud, Ud, Ud, Ud, Ud, Ud, Ud, Ud] Try.func26 rfl Try.ntmps26 rfl ?_
  refine wp_seq_k fun K11 hK11 => ?_
  refine wp_region_lit ?_
  refine seqd rfl rfl (does_box (u := (.agg #[(.slice p5 A_m.places.length q6), (.slice p8 A_m.tris.length q9)])) (ev rfl)) ?_; rintro _ w16 ⟨b12, rfl, hb13, hB14, E15⟩
  have g17 : w.heap.size ≤ b12 := Nat.le_trans (Below.size (Ext.refl w)) hb13
  change Blk _ _ [(.slice p5 A_m.places.length q6), (.slice p8 A_m.tris.length q9)] at hB14
  have X18 := Ext.gr (Ext.refl w) E15
  show wpList _ _ _ _ (fr [(.agg #[(.slice p5 A_m.places.length q6), (.slice p8 A_m.tris.length q9)]), (Pt b12 0), Ud, Ud, Ud, Ud, Ud, Ud, Ud, Ud, Ud, Ud, Ud, Ud, Ud, Ud, Ud, Ud, Ud, Ud, Ud, Ud]) _
  refine q_is (l' := [(.agg #[(.slice p5 A_m.places.length q6), (.slice p8 A_m.tris.length q9)]), (Pt b12 0), (Bo false), Ud, Ud, Ud, Ud, Ud, Ud, Ud, Ud, Ud, Ud, Ud, Ud, Ud, Ud, Ud, Ud, Ud, Ud, Ud]) rfl rfl (does_assign (u := (Bo false)) (ev rfl)) rfl ?_
  refine wpList_nil (hK11 _ _ ?_)
  refine wp_seq_k fun K19 hK19 => ?_
  refine wp_region_lit ?_
  refine q_is (l' := [(.agg #[(.slice p5 A_m.places.length q6), (.slice p8 A_m.tris.length q9)]), (Pt b12 0), (Bo false), Ud, (Pt b12 1), Ud, Ud, Ud, Ud, Ud, Ud, Ud, Ud, Ud, Ud, Ud, Ud, Ud, Ud, Ud, Ud, Ud]) rfl rfl (does_fieldAddr (ev rfl) fa32_1) rfl ?_
  refine q_is (l' := [(.agg #[(.slice p5 A_m.places.length q6), (.slice p8 A_m.tris.length q9)]), (Pt b12 0), (Bo false), Ud, (Pt b12 1), (.slice p8 A_m.tris.length q9), Ud, Ud, Ud, Ud, Ud, Ud, Ud, Ud, Ud, Ud, Ud, Ud, Ud, Ud, Ud, Ud]) rfl rfl (does_load (u := (.slice p8 A_m.tris.length q9)) (ev rfl) Try.isAgg23 (Cells.at (Blk.cells hB14) 1 rfl)) rfl ?_
  refine q_is (l' := [(.agg #[(.slice p5 A_m.places.length q6), (.slice p8 A_m.tris.length q9)]), (Pt b12 0), (Bo false), Ud, (Pt b12 1), (.slice p8 A_m.tris.length q9), (.func (.func 50) #[] #[(Pt b12 0)]), Ud, Ud, Ud, Ud, Ud, Ud, Ud, Ud, Ud, Ud, Ud, Ud, Ud, Ud, Ud]) rfl rfl (does_makeFunc (u := (.func (.func 50) #[] #[(Pt b12 0)])) (evs rfl) (evs rfl) rfl) rfl ?_
  refine seqd rfl rfl (does_call (args := #[(.slice p8 A_m.tris.length q9), (.func (.func 50) #[] #[(Pt b12 0)])]) cal49 (evs rfl) (c_slices_ContainsFunc_SS_int64_int64 (.slice p8 A_m.tris.length q9) A_m.tris (.func (.func 50) #[] #[(Pt b12 0)]) (fun x => !triOk (A_m.places.length : Int) x) _ (Sl.ext hs10 (RS.mono RI.mono) X18) ⟨50, #[], #[(Pt b12 0)], rfl, cal50, fun y0 X0 u hu' ha0 => by simpa using (c_impl_ValidMesh_1 y0 X0 b12 0 [(.slice p5 A_m.places.length q6), (.slice p8 A_m.tris.length q9)] A_m u ha0 (Blk.cells (hB14.ext hu')) ⟨(.slice p5 A_m.places.length q6), (.slice p8 A_m.tris.length q9), rfl, (Sl.ext (Sl.ext hs7 RV3.mono X18) RV3.mono hu'), (Sl.ext (Sl.ext hs10 (RS.mono RI.mono) X18) (RS.mono RI.mono) hu')⟩)⟩)) ?_; rintro _ w21 ⟨E20, rfl⟩
  have X22 := Ext.gr X18 E20
  show wpList _ _ _ _ (fr [(.agg #[(.slice p5 A_m.places.length q6), (.slice p8 A_m.tris.length q9)]), (Pt b12 0), (Bo false), Ud, (Pt b12 1), (.slice p8 A_m.tris.length q9), (.func (.func 50) #[] #[(Pt b12 0)]), (Bo (A_m.tris.any (fun x => !triOk (A_m.places.length : Int) x))), Ud, Ud, Ud, Ud, Ud, Ud, Ud, Ud, Ud, Ud, Ud, Ud, Ud, Ud]) _
  refine q_is (l' := [(.agg #[(.slice p5 A_m.places.length q6), (.slice p8 A_m.tris.length q9)]), (Pt b12 0), (Bo false), (Bo (A_m.tris.any (fun x => !triOk (A_m.places.length : Int) x))), (Pt b12 1), (.slice p8 A_m.tris.length q9), (.func (.func 50) #[] #[(Pt b12 0)]), (Bo (A_m.tris.any (fun x => !triOk (A_m.places.length : Int) x))), Ud, Ud, Ud, Ud, Ud, Ud, Ud, Ud, Ud, Ud, Ud, Ud, Ud, Ud]) rfl rfl (does_assign (u := (Bo (A_m.tris.any (fun x => !triOk (A_m.places.length : Int) x)))) (ev rfl)) rfl ?_
  refine wpList_nil (hK19 _ _ ?_)
  refine wp_seq_k fun K23 hK23 => ?_
  obtain ⟨β1, hβ1⟩ : ∃ b : Bool, b = (A_m.tris.any (fun x => !triOk (A_m.places.length : Int) x)) := ⟨_, rfl⟩
  obtain ⟨β2, hβ2⟩ : ∃ b : Bool, b = (icmp .leq (A_m.places.length : Int) 8192) := ⟨_, rfl⟩
  obtain ⟨β3, hβ3⟩ : ∃ b : Bool, b = (icmp .leq (A_m.tris.length : Int) 9000) := ⟨_, rfl⟩
  refine region_text (
    [Fact.pure [] (fun v => v = (Bo β1)),
    Fact.pure [8] (fun v => v = (Bo (!β1))),
    Fact.pure [9] (fun v => v = (Bo (!β1))),
    Fact.pure [10] (fun v => (!β1) = true → v = (Pt b12 0)),
    Fact.pure [11, 10] (fun v => (!β1) = true → v = (.slice p5 A_m.places.length q6)),
    Fact.pure [12, 10] (fun v => (!β1) = true → v = (Iv (A_m.places.length : Int))),
    Fact.pure [13, 10] (fun v => (!β1) = true → v = (Bo β2)),
    Fact.pure [10, 14] (fun v => v = (Bo ((!β1) && β2))),
    Fact.pure [15] (fun v => v = (Bo ((!β1) && β2))),
    Fact.pure [16] (fun v => ((!β1) && β2) = true → v = (Pt b12 1)),
    Fact.pure [17, 16] (fun v => ((!β1) && β2) = true → v = (.slice p8 A_m.tris.length q9)),
    Fact.pure [18, 16] (fun v => ((!β1) && β2) = true → v = (Iv (A_m.tris.length : Int))),
    Fact.pure [19, 16] (fun v => ((!β1) && β2) = true → v = (Bo β3)),
    Fact.pure [16, 20] (fun v => v = (Bo (((!β1) && β2) && β3)))]) (by simp [Fact.pure, Fact.mem]) ?_
  refine RW_d (fun v24 => [(.agg #[(.slice p5 A_m.places.length q6), (.slice p8 A_m.tris.length q9)]), (Pt b12 0), (Bo false), (Bo (A_m.tris.any (fun x => !triOk (A_m.places.length : Int) x))), (Pt b12 1), (.slice p8 A_m.tris.length q9), (.func (.func 50) #[] #[(Pt b12 0)]), (Bo (A_m.tris.any (fun x => !triOk (A_m.places.length : Int) x))), v24, Ud, Ud, Ud, Ud, Ud, Ud, Ud, Ud, Ud, Ud, Ud, Ud, Ud]) rfl (fun _ => rfl) (fun u hu hF => ?_) (fun v24 => ?_)
  · clear hF
    refine doesG_un rfl ?_
    refine (does_move (u := (Bo (A_m.tris.any (fun x => !triOk (A_m.places.length : Int) x)))) (ev rfl)).mono ?_; rintro _ _ ⟨rfl, rfl⟩
    exact ⟨(by first | rfl | (show _ = _; simp only [hβ1]; done) | (show _ = _; simp only [hβ1]; rfl)), Ext.refl _⟩
  refine RW_d (fun v25 => [(.agg #[(.slice p5 A_m.places.length q6), (.slice p8 A_m.tris.length q9)]), (Pt b12 0), (Bo false), (Bo (A_m.tris.any (fun x => !triOk (A_m.places.length : Int) x))), (Pt b12 1), (.slice p8 A_m.tris.length q9), (.func (.func 50) #[] #[(Pt b12 0)]), (Bo (A_m.tris.any (fun x => !triOk (A_m.places.length : Int) x))), v24, v25, Ud, Ud, Ud, Ud, Ud, Ud, Ud, Ud, Ud, Ud, Ud, Ud]) rfl (fun _ => rfl) (fun u hu hF => ?_) (fun v25 => ?_)
  · have h8_ : v24 = (Bo β1) := hF.1
    clear hF
    refine doesG_un rfl ?_
    obtain rfl := h8_
    refine (does_not (ev rfl)).mono ?_; rintro _ _ ⟨rfl, rfl⟩
    exact ⟨rfl, Ext.refl _⟩
  refine RW_d (fun v26 => [(.agg #[(.slice p5 A_m.places.length q6), (.slice p8 A_m.tris.length q9)]), (Pt b12 0), (Bo false), (Bo (A_m.tris.any (fun x => !triOk (A_m.places.length : Int) x))), (Pt b12 1), (.slice p8 A_m.tris.length q9), (.func (.func 50) #[] #[(Pt b12 0)]), (Bo (A_m.tris.any (fun x => !triOk (A_m.places.length : Int) x))), v24, v25, v26, Ud, Ud, Ud, Ud, Ud, Ud, Ud, Ud, Ud, Ud, Ud]) rfl (fun _ => rfl) (fun u hu hF => ?_) (fun v26 => ?_)
  · have h9_ : v25 = (Bo (!β1)) := hF.1
    clear hF
    refine doesG_un rfl ?_
    obtain rfl := h9_
    refine (does_move (u := (Bo (!β1))) (ev rfl)).mono ?_; rintro _ _ ⟨rfl, rfl⟩
    exact ⟨rfl, Ext.refl _⟩
  refine RW_d (fun v27 => [(.agg #[(.slice p5 A_m.places.length q6), (.slice p8 A_m.tris.length q9)]), (Pt b12 0), (Bo false), (Bo (A_m.tris.any (fun x => !triOk (A_m.places.length : Int) x))), (Pt b12 1), (.slice p8 A_m.tris.length q9), (.func (.func 50) #[] #[(Pt b12 0)]), (Bo (A_m.tris.any (fun x => !triOk (A_m.places.length : Int) x))), v24, v25, v26, v27, Ud, Ud, Ud, Ud, Ud, Ud, Ud, Ud, Ud, Ud]) rfl (fun _ => rfl) (fun u hu hF => ?_) (fun v27 => ?_)
  · have h10_ : v26 = (Bo (!β1)) := hF.1
    clear hF
    obtain rfl := h10_
    refine doesG_g (b := (!β1)) rfl (yld rfl rfl) (fun hg1 => ?_) (fun hc => ⟨fun hg1 => absurd hg1 hc, Ext.refl _⟩)
    refine (does_fieldAddr (ev rfl) fa32_0).mono ?_; rintro _ _ ⟨rfl, rfl⟩
    exact ⟨fun _ => rfl, Ext.refl _⟩
  refine RW_d (fun v28 => [(.agg #[(.slice p5 A_m.places.length q6), (.slice p8 A_m.tris.length q9)]), (Pt b12 0), (Bo false), (Bo (A_m.tris.any (fun x => !triOk (A_m.places.length : Int) x))), (Pt b12 1), (.slice p8 A_m.tris.length q9), (.func (.func 50) #[] #[(Pt b12 0)]), (Bo (A_m.tris.any (fun x => !triOk (A_m.places.length : Int) x))), v24, v25, v26, v27, v28, Ud, Ud, Ud, Ud, Ud, Ud, Ud, Ud, Ud]) rfl (fun _ => rfl) (fun u hu hF => ?_) (fun v28 => ?_)
  · have h11_ : (!β1) = true → v27 = (Pt b12 0) := hF.1
    have h10_ : v26 = (Bo (!β1)) := hF.2.1
    clear hF
    obtain rfl := h10_
    refine doesG_g (b := (!β1)) rfl (yld rfl rfl) (fun hg1 => ?_) (fun hc => ⟨fun hg1 => absurd hg1 hc, Ext.refl _⟩)
    obtain rfl := h11_ hg1
    refine (does_load (u := (.slice p5 A_m.places.length q6)) (ev rfl) Try.isAgg30 (Cells.at (Blk.cells ((hB14.ext E20).ext hu)) 0 rfl)).mono ?_; rintro _ _ ⟨rfl, rfl⟩
    exact ⟨fun _ => rfl, Ext.refl _⟩
  refine RW_d (fun v29 => [(.agg #[(.slice p5 A_m.places.length q6), (.slice p8 A_m.tris.length q9)]), (Pt b12 0), (Bo false), (Bo (A_m.tris.any (fun x => !triOk (A_m.places.length : Int) x))), (Pt b12 1), (.slice p8 A_m.tris.length q9), (.func (.func 50) #[] #[(Pt b12 0)]), (Bo (A_m.tris.any (fun x => !triOk (A_m.places.length : Int) x))), v24, v25, v26, v27, v28, v29, Ud, Ud, Ud, Ud, Ud, Ud, Ud, Ud]) rfl (fun _ => rfl) (fun u hu hF => ?_) (fun v29 => ?_)
  · have h12_ : (!β1) = true → v28 = (.slice p5 A_m.places.length q6) := hF.1
    have h10_ : v26 = (Bo (!β1)) := hF.2.1
    clear hF
    obtain rfl := h10_
    refine doesG_g (b := (!β1)) rfl (yld rfl rfl) (fun hg1 => ?_) (fun hc => ⟨fun hg1 => absurd hg1 hc, Ext.refl _⟩)
    obtain rfl := h12_ hg1
    refine (does_len_slice Try.underlying30 (ev rfl)).mono ?_; rintro _ _ ⟨rfl, rfl⟩
    exact ⟨fun _ => rfl, Ext.refl _⟩
  refine RW_d (fun v30 => [(.agg #[(.slice p5 A_m.places.length q6), (.slice p8 A_m.tris.length q9)]), (Pt b12 0), (Bo false), (Bo (A_m.tris.any (fun x => !triOk (A_m.places.length : Int) x))), (Pt b12 1), (.slice p8 A_m.tris.length q9), (.func (.func 50) #[] #[(Pt b12 0)]), (Bo (A_m.tris.any (fun x => !triOk (A_m.places.length : Int) x))), v24, v25, v26, v27, v28, v29, v30, Ud, Ud, Ud, Ud, Ud, Ud, Ud]) rfl (fun _ => rfl) (fun u hu hF => ?_) (fun v30 => ?_)
  · have h13_ : (!β1) = true → v29 = (Iv (A_m.places.length : Int)) := hF.1
    have h10_ : v26 = (Bo (!β1)) := hF.2.1
    clear hF
    obtain rfl := h10_
    refine doesG_g (b := (!β1)) rfl (yld rfl rfl) (fun hg1 => ?_) (fun hc => ⟨fun hg1 => absurd hg1 hc, Ext.refl _⟩)
    obtain rfl := h13_ hg1
    refine (does_icmp (p := (A_m.places.length : Int)) (q := 8192) (.inr (.inr (.inr (.inl rfl)))) (ev rfl) (ev rfl)).mono ?_; rintro _ _ ⟨rfl, rfl⟩
    exact ⟨fun _ => (by first | rfl | (show _ = _; simp only [hβ2]; done) | (show _ = _; simp only [hβ2]; rfl)), Ext.refl _⟩
  refine RW_d (fun v31 => [(.agg #[(.slice p5 A_m.places.length q6), (.slice p8 A_m.tris.length q9)]), (Pt b12 0), (Bo false), (Bo (A_m.tris.any (fun x => !triOk (A_m.places.length : Int) x))), (Pt b12 1), (.slice p8 A_m.tris.length q9), (.func (.func 50) #[] #[(Pt b12 0)]), (Bo (A_m.tris.any (fun x => !triOk (A_m.places.length : Int) x))), v24, v25, v26, v27, v28, v29, v30, v31, Ud, Ud, Ud, Ud, Ud, Ud]) rfl (fun _ => rfl) (fun u hu hF => ?_) (fun v31 => ?_)
  · have h10_ : v26 = (Bo (!β1)) := hF.1
    have h14_ : (!β1) = true → v30 = (Bo β2) := hF.2.1
    clear hF
    refine doesG_un rfl ?_
    skip
    obtain rfl := h10_
    refine (does_pick (b := (!β1)) (u := v30) (v := (Bo false)) (ev rfl) (ev rfl) (ev rfl)).mono ?_; rintro _ _ ⟨rfl, rfl⟩; refine ⟨?_, Ext.refl _⟩; skip
    cases hbb : (!β1)
    all_goals first | (show _ = _; simp only [↓reduceIte, Bool.true_and, Bool.false_and, Bool.true_or, Bool.false_or, Bool.false_eq_true]; done) | (have e_ := h14_ hbb; subst e_; show _ = _; simp only [↓reduceIte, Bool.true_and, Bool.false_and, Bool.true_or, Bool.false_or, Bool.false_eq_true]; done) | rfl | (have e_ := h14_ hbb; subst e_; rfl) | (simp [hbb] at h14_ ⊢; first | done | rfl | (subst h14_; rfl) | simp_all) | (simp [hbb] at h14_ ⊢; done)
  refine RW_d (fun v32 => [(.agg #[(.slice p5 A_m.places.length q6), (.slice p8 A_m.tris.length q9)]), (Pt b12 0), (Bo false), (Bo (A_m.tris.any (fun x => !triOk (A_m.places.length : Int) x))), (Pt b12 1), (.slice p8 A_m.tris.length q9), (.func (.func 50) #[] #[(Pt b12 0)]), (Bo (A_m.tris.any (fun x => !triOk (A_m.places.length : Int) x))), v24, v25, v26, v27, v28, v29, v30, v31, v32, Ud, Ud, Ud, Ud, Ud]) rfl (fun _ => rfl) (fun u hu hF => ?_) (fun v32 => ?_)
  · have h15_ : v31 = (Bo ((!β1) && β2)) := hF.1
    clear hF
    refine doesG_un rfl ?_
    obtain rfl := h15_
    refine (does_move (u := (Bo ((!β1) && β2))) (ev rfl)).mono ?_; rintro _ _ ⟨rfl, rfl⟩
    exact ⟨rfl, Ext.refl _⟩
  refine RW_d (fun v33 => [(.agg #[(.slice p5 A_m.places.length q6), (.slice p8 A_m.tris.length q9)]), (Pt b12 0), (Bo false), (Bo (A_m.tris.any (fun x => !triOk (A_m.places.length : Int) x))), (Pt b12 1), (.slice p8 A_m.tris.length q9), (.func (.func 50) #[] #[(Pt b12 0)]), (Bo (A_m.tris.any (fun x => !triOk (A_m.places.length : Int) x))), v24, v25, v26, v27, v28, v29, v30, v31, v32, v33, Ud, Ud, Ud, Ud]) rfl (fun _ => rfl) (fun u hu hF => ?_) (fun v33 => ?_)
  · have h16_ : v32 = (Bo ((!β1) && β2)) := hF.1
    clear hF
    obtain rfl := h16_
    refine doesG_g (b := ((!β1) && β2)) rfl (yld rfl rfl) (fun hg1 => ?_) (fun hc => ⟨fun hg1 => absurd hg1 hc, Ext.refl _⟩)
    refine (does_fieldAddr (ev rfl) fa32_1).mono ?_; rintro _ _ ⟨rfl, rfl⟩
    exact ⟨fun _ => rfl, Ext.refl _⟩
  refine RW_d (fun v34 => [(.agg #[(.slice p5 A_m.places.length q6), (.slice p8 A_m.tris.length q9)]), (Pt b12 0), (Bo false), (Bo (A_m.tris.any (fun x => !triOk (A_m.places.length : Int) x))), (Pt b12 1), (.slice p8 A_m.tris.length q9), (.func (.func 50) #[] #[(Pt b12 0)]), (Bo (A_m.tris.any (fun x => !triOk (A_m.places.length : Int) x))), v24, v25, v26, v27, v28, v29, v30, v31, v32, v33, v34, Ud, Ud, Ud]) rfl (fun _ => rfl) (fun u hu hF => ?_) (fun v34 => ?_)
  · have h17_ : ((!β1) && β2) = true → v33 = (Pt b12 1) := hF.1
    have h16_ : v32 = (Bo ((!β1) && β2)) := hF.2.1
    clear hF
    obtain rfl := h16_
    refine doesG_g (b := ((!β1) && β2)) rfl (yld rfl rfl) (fun hg1 => ?_) (fun hc => ⟨fun hg1 => absurd hg1 hc, Ext.refl _⟩)
    obtain rfl := h17_ hg1
    refine (does_load (u := (.slice p8 A_m.tris.length q9)) (ev rfl) Try.isAgg23 (Cells.at (Blk.cells ((hB14.ext E20).ext hu)) 1 rfl)).mono ?_; rintro _ _ ⟨rfl, rfl⟩
    exact ⟨fun _ => rfl, Ext.refl _⟩
  refine RW_d (fun v35 => [(.agg #[(.slice p5 A_m.places.length q6), (.slice p8 A_m.tris.length q9)]), (Pt b12 0), (Bo false), (Bo (A_m.tris.any (fun x => !triOk (A_m.places.length : Int) x))), (Pt b12 1), (.slice p8 A_m.tris.length q9), (.func (.func 50) #[] #[(Pt b12 0)]), (Bo (A_m.tris.any (fun x => !triOk (A_m.places.length : Int) x))), v24, v25, v26, v27, v28, v29, v30, v31, v32, v33, v34, v35, Ud, Ud]) rfl (fun _ => rfl) (fun u hu hF => ?_) (fun v35 => ?_)
  · have h18_ : ((!β1) && β2) = true → v34 = (.slice p8 A_m.tris.length q9) := hF.1
    have h16_ : v32 = (Bo ((!β1) && β2)) := hF.2.1
    clear hF
    obtain rfl := h16_
    refine doesG_g (b := ((!β1) && β2)) rfl (yld rfl rfl) (fun hg1 => ?_) (fun hc => ⟨fun hg1 => absurd hg1 hc, Ext.refl _⟩)
    obtain rfl := h18_ hg1
    refine (does_len_slice Try.underlying23 (ev rfl)).mono ?_; rintro _ _ ⟨rfl, rfl⟩
    exact ⟨fun _ => rfl, Ext.refl _⟩
  refine RW_d (fun v36 => [(.agg #[(.slice p5 A_m.places.length q6), (.slice p8 A_m.tris.length q9)]), (Pt b12 0), (Bo false), (Bo (A_m.tris.any (fun x => !triOk (A_m.places.length : Int) x))), (Pt b12 1), (.slice p8 A_m.tris.length q9), (.func (.func 50) #[] #[(Pt b12 0)]), (Bo (A_m.tris.any (fun x => !triOk (A_m.places.length : Int) x))), v24, v25, v26, v27, v28, v29, v30, v31, v32, v33, v34, v35, v36, Ud]) rfl (fun _ => rfl) (fun u hu hF => ?_) (fun v36 => ?_)
  · have h19_ : ((!β1) && β2) = true → v35 = (Iv (A_m.tris.length : Int)) := hF.1
    have h16_ : v32 = (Bo ((!β1) && β2)) := hF.2.1
    clear hF
    obtain rfl := h16_
    refine doesG_g (b := ((!β1) && β2)) rfl (yld rfl rfl) (fun hg1 => ?_) (fun hc => ⟨fun hg1 => absurd hg1 hc, Ext.refl _⟩)
    obtain rfl := h19_ hg1
    refine (does_icmp (p := (A_m.tris.length : Int)) (q := 9000) (.inr (.inr (.inr (.inl rfl)))) (ev rfl) (ev rfl)).mono ?_; rintro _ _ ⟨rfl, rfl⟩
    exact ⟨fun _ => (by first | rfl | (show _ = _; simp only [hβ3]; done) | (show _ = _; simp only [hβ3]; rfl)), Ext.refl _⟩
  refine RW_d (fun v37 => [(.agg #[(.slice p5 A_m.places.length q6), (.slice p8 A_m.tris.length q9)]), (Pt b12 0), (Bo false), (Bo (A_m.tris.any (fun x => !triOk (A_m.places.length : Int) x))), (Pt b12 1), (.slice p8 A_m.tris.length q9), (.func (.func 50) #[] #[(Pt b12 0)]), (Bo (A_m.tris.any (fun x => !triOk (A_m.places.length : Int) x))), v24, v25, v26, v27, v28, v29, v30, v31, v32, v33, v34, v35, v36, v37]) rfl (fun _ => rfl) (fun u hu hF => ?_) (fun v37 => ?_)
  · have h16_ : v32 = (Bo ((!β1) && β2)) := hF.1
    have h20_ : ((!β1) && β2) = true → v36 = (Bo β3) := hF.2.1
    clear hF
    refine doesG_un rfl ?_
    skip
    obtain rfl := h16_
    refine (does_pick (b := ((!β1) && β2)) (u := v36) (v := (Bo false)) (ev rfl) (ev rfl) (ev rfl)).mono ?_; rintro _ _ ⟨rfl, rfl⟩; refine ⟨?_, Ext.refl _⟩; skip
    cases hbb : ((!β1) && β2)
    all_goals first | (show _ = _; simp only [↓reduceIte, Bool.true_and, Bool.false_and, Bool.true_or, Bool.false_or, Bool.false_eq_true]; done) | (have e_ := h20_ hbb; subst e_; show _ = _; simp only [↓reduceIte, Bool.true_and, Bool.false_and, Bool.true_or, Bool.false_or, Bool.false_eq_true]; done) | rfl | (have e_ := h20_ hbb; subst e_; rfl) | (simp [hbb] at h20_ ⊢; first | done | rfl | (subst h20_; rfl) | simp_all) | (simp [hbb] at h20_ ⊢; done)
  refine RW_fin ?_; intro w38 E39 hP40
  obtain ⟨⟨⟨⟨⟨⟨⟨⟨⟨⟨⟨⟨⟨⟨-, -⟩, -⟩, -⟩, -⟩, -⟩, -⟩, -⟩, -⟩, -⟩, -⟩, -⟩, -⟩, -⟩, q41⟩ := hP40
  have X42 := Ext.gr X22 E39
  have q41 : v37 = (Bo (((!β1) && β2) && β3)) := q41
  obtain rfl := q41
  show wpList _ _ _ _ (fr [(.agg #[(.slice p5 A_m.places.length q6), (.slice p8 A_m.tris.length q9)]), (Pt b12 0), (Bo false), (Bo (A_m.tris.any (fun x => !triOk (A_m.places.length : Int) x))), (Pt b12 1), (.slice p8 A_m.tris.length q9), (.func (.func 50) #[] #[(Pt b12 0)]), (Bo (A_m.tris.any (fun x => !triOk (A_m.places.length : Int) x))), v24, v25, v26, v27, v28, v29, v30, v31, v32, v33, v34, v35, v36, (Bo (((!β1) && β2) && β3))]) _
  refine q_is (l' := [(.agg #[(.slice p5 A_m.places.length q6), (.slice p8 A_m.tris.length q9)]), (Pt b12 0), (Bo (((!β1) && β2) && β3)), (Bo (A_m.tris.any (fun x => !triOk (A_m.places.length : Int) x))), (Pt b12 1), (.slice p8 A_m.tris.length q9), (.func (.func 50) #[] #[(Pt b12 0)]), (Bo (A_m.tris.any (fun x => !triOk (A_m.places.length : Int) x))), v24, v25, v26, v27, v28, v29, v30, v31, v32, v33, v34, v35, v36, (Bo (((!β1) && β2) && β3))]) rfl rfl (does_assign (u := (Bo (((!β1) && β2) && β3))) (ev rfl)) rfl ?_
  refine wpList_nil (hK23 _ _ ?_)
  refine wp_ret ?_
  refine ret_val (v := (Bo (((!β1) && β2) && β3))) (res_T rfl (slot rfl)) X42 ?_
  have x43 : (meshOk A_m) = (((!β1) && β2) && β3) := by first | with_reducible rfl | (simp only [meshOk, hβ1, hβ2, hβ3]; done) | (simp [meshOk, hβ1, hβ2, hβ3]; done) | rfl
  exact (by first | with_reducible rfl | rw [x43] | rfl)

/- slices.Repeat[[]int64,int64] -/
theorem c_slices_Repeat_int64_int64 (xs : Value) (L_xs : List Int) (n_ : Nat) (w : World) (hv_xs : Sl RI 1 w xs L_xs) (hl : L_xs.length = 1) (hn : n_ ≤ 1000000) : Gives Try.prog 52 #[xs, (Iv (n_ : Int))] w (fun v w' => ∃ y_1 : Value, ∃ Lw_2 : List Nat, v = y_1 ∧ Hang w.heap.size w' (fun u => Sl RI 1 u y_1 (List.replicate n_ (iAt L_xs 0))) ∧ WL 1 w.heap.size w' Lw_2 y_1 (List.replicate n_ (iAt L_xs 0)).length) := by
  have hlen_xs := Sl.len hv_xs; obtain ⟨p_xs, q_xs, rfl⟩ := Sl.shape hv_xs
  have hx0 : L_xs = [iAt L_xs 0] := by obtain ⟨x, hx⟩ := List.length_eq_one_iff.1 hl; rw [hx]; rfl
  refine enter [(.slice p_xs L_xs.length q_xs), (Iv (n_ : Int)), Ud, Ud, Ud, Ud, Ud, Ud, Ud, Ud, Ud, Ud, Ud, Ud, Ud, Ud, Ud, Ud, Ud, Ud, Ud, Ud, Ud, Ud, Ud, Ud, Ud, Ud, Ud, Ud, Ud, Ud, Ud, Ud, Ud, Ud, Ud, Ud, Ud, Ud, Ud, Ud, Ud, Ud, Ud, Ud, Ud, Ud] Try.func52 rfl Try.ntmps52 rfl ?_
  refine wp_seq_k fun K1 hK1 => ?_
  refine wp_region_lit ?_
  refine q_is rfl rfl (does_assign (u := (.slice none 0 0)) (ev rfl)) (by dsimp only [List.set]; try rfl) ?_
  refine wpList_nil (hK1 _ _ ?_)
  refine wp_seq_k fun K2 hK2 => ?_
  refine wp_seq_k fun K3 hK3 => ?_
  refine wp_region_lit ?_
  refine q_is rfl rfl (does_move (u := (Iv (n_ : Int))) (ev rfl)) (by dsimp only [List.set]; try rfl) ?_
  refine q_is rfl rfl (does_icmp (p := (n_ : Int)) (q := 0) (.inr (.inr (.inl rfl))) (ev rfl) (ev rfl)) (by dsimp only [List.set]; try rfl) ?_
  refine wpList_nil (hK3 _ _ ?_)
  refine wp_cond_split (t := icmp .lss (n_ : Int) 0) (ev rfl) (fun c4 => ?_) (fun c4 => ?_)
  · have c4' := c4
    (try simp only [icmp, Bool.and_eq_true, Bool.or_eq_true, Bool.and_eq_false_iff, Bool.or_eq_false_iff, Bool.not_eq_true', Bool.not_eq_false', decide_eq_true_eq, decide_eq_false_iff_not, beq_iff_eq, bne_iff_ne, beq_eq_false_iff_ne, bne_eq_false_iff_eq] at c4')
    exfalso; simp only [icmp, decide_eq_true_eq] at c4; omega
  have c4' := c4
  (try simp only [icmp, Bool.and_eq_true, Bool.or_eq_true, Bool.and_eq_false_iff, Bool.or_eq_false_iff, Bool.not_eq_true', Bool.not_eq_false', decide_eq_true_eq, decide_eq_false_iff_not, beq_iff_eq, bne_iff_ne, beq_eq_false_iff_ne, bne_eq_false_iff_eq] at c4')
  refine wp_skip (hK2 _ _ ?_)
  refine wp_seq_k fun K5 hK5 => ?_
  refine wp_region_lit ?_
  refine q_is rfl rfl (does_move (u := (.slice p_xs L_xs.length q_xs)) (ev rfl)) (by dsimp only [List.set]; try rfl) ?_
  refine q_is rfl rfl (does_len_slice Try.underlying27 (ev rfl)) (by dsimp only [List.set]; try rfl) ?_
  refine q_is rfl rfl (does_conv_ii (r := (L_xs.length : Int)) (k := .i64) (k' := .u64) (n := (L_xs.length : Int)) Try.underlying3 Try.underlying93 (ev rfl) (in_u64 (by omega) (by omega)).symm) (by dsimp only [List.set]; try rfl) ?_
  refine q_is rfl rfl (does_move (u := (Iv (n_ : Int))) (ev rfl)) (by dsimp only [List.set]; try rfl) ?_
  refine q_is rfl rfl (does_conv_ii (r := (n_ : Int)) (k := .i64) (k' := .u64) (n := (n_ : Int)) Try.underlying3 Try.underlying93 (ev rfl) (in_u64 (by omega) (by omega)).symm) (by dsimp only [List.set]; try rfl) ?_
  refine seqd rfl rfl (does_call (args := #[(.int .u64 (L_xs.length : Int)), (.int .u64 (n_ : Int))]) cal64 (evs rfl) (c_bits_Mul (L_xs.length : Int) (n_ : Int) _ (by omega) (by omega))) ?_; rintro _ w7 ⟨E6, ⟨i8, rfl, h9⟩⟩
  have X10 := Ext.gr (Ext.refl w) E6
  show wpList _ _ _ _ (fr [_, _, _, _, _, _, _, _, _, _, _, _, _, _, _, _, _, _, _, _, _, _, _, _, _, _, _, _, _, _, _, _, _, _, _, _, _, _, _, _, _, _, _, _, _, _, _, _]) _
  refine q_is rfl rfl (does_move (u := (.tuple #[(.int .u64 i8), (.int .u64 (n_ : Int))])) (ev rfl)) (by dsimp only [List.set]; try rfl) ?_
  refine q_is rfl rfl (does_extract (vs := #[(.int .u64 i8), (.int .u64 (n_ : Int))]) (u := (.int .u64 i8)) (ev rfl) rfl) (by dsimp only [List.set]; try rfl) ?_
  refine q_is rfl rfl (does_extract (vs := #[(.int .u64 i8), (.int .u64 (n_ : Int))]) (u := (.int .u64 (n_ : Int))) (ev rfl) rfl) (by dsimp only [List.set]; try rfl) ?_
  refine q_is rfl rfl (does_assign (u := (.int .u64 i8)) (ev rfl)) (by dsimp only [List.set]; try rfl) ?_
  refine q_is rfl rfl (does_assign (u := (.int .u64 (n_ : Int))) (ev rfl)) (by dsimp only [List.set]; try rfl) ?_
  refine wpList_nil (hK5 _ _ ?_)
  refine wp_seq_k fun K11 hK11 => ?_
  refine wp_seq_k fun K12 hK12 => ?_
  obtain ⟨β1, hβ1⟩ : ∃ b : Bool, b = (icmp .gtr (n_ : Int) 9223372036854775807) := ⟨_, rfl⟩
  refine region_text (
    [Fact.pure [] (fun v => v = (.int .u64 i8)),
    Fact.pure [21] (fun v => v = (Bo (icmp .gtr i8 0))),
    Fact.pure [22] (fun v => v = (Bo (icmp .gtr i8 0))),
    Fact.pure [23] (fun v => (icmp .gtr i8 0) = false → v = (.int .u64 (n_ : Int))),
    Fact.pure [24, 23] (fun v => (icmp .gtr i8 0) = false → v = (Bo β1)),
    Fact.pure [23, 25] (fun v => v = (Bo ((icmp .gtr i8 0) || β1)))]) (by simp [Fact.pure, Fact.mem]) ?_
  refine RW_d _ rfl (fun v => by dsimp only [List.set]; try rfl) (fun u hu hF => ?_) (fun v13 => ?_)
  · clear hF
    refine doesG_un rfl ?_
    refine (does_move (u := (.int .u64 i8)) (ev rfl)).mono ?_; rintro _ _ ⟨rfl, rfl⟩
    exact ⟨rfl, Ext.refl _⟩
  refine RW_d _ rfl (fun v => by dsimp only [List.set]; try rfl) (fun u hu hF => ?_) (fun v14 => ?_)
  · have h21_ : v13 = (.int .u64 i8) := hF.1
    clear hF
    refine doesG_un rfl ?_
    obtain rfl := h21_
    refine (does_icmp (p := i8) (q := 0) (.inr (.inr (.inr (.inr (.inl rfl))))) (ev rfl) (ev rfl)).mono ?_; rintro _ _ ⟨rfl, rfl⟩
    exact ⟨rfl, Ext.refl _⟩
  refine RW_d _ rfl (fun v => by dsimp only [List.set]; try rfl) (fun u hu hF => ?_) (fun v15 => ?_)
  · have h22_ : v14 = (Bo (icmp .gtr i8 0)) := hF.1
    clear hF
    refine doesG_un rfl ?_
    obtain rfl := h22_
    refine (does_move (u := (Bo (icmp .gtr i8 0))) (ev rfl)).mono ?_; rintro _ _ ⟨rfl, rfl⟩
    exact ⟨rfl, Ext.refl _⟩
  refine RW_d _ rfl (fun v => by dsimp only [List.set]; try rfl) (fun u hu hF => ?_) (fun v16 => ?_)
  · have h23_ : v15 = (Bo (icmp .gtr i8 0)) := hF.1
    clear hF
    obtain rfl := h23_
    refine doesG_g (b := (icmp .gtr i8 0)) rfl (yld rfl rfl) (fun hg1 => ?_) (fun hc => ⟨fun hg1 => absurd hg1 hc, Ext.refl _⟩)
    refine (does_move (u := (.int .u64 (n_ : Int))) (ev rfl)).mono ?_; rintro _ _ ⟨rfl, rfl⟩
    exact ⟨fun _ => rfl, Ext.refl _⟩
  refine RW_d _ rfl (fun v => by dsimp only [List.set]; try rfl) (fun u hu hF => ?_) (fun v17 => ?_)
  · have h24_ : (icmp .gtr i8 0) = false → v16 = (.int .u64 (n_ : Int)) := hF.1
    have h23_ : v15 = (Bo (icmp .gtr i8 0)) := hF.2.1
    clear hF
    obtain rfl := h23_
    refine doesG_g (b := (icmp .gtr i8 0)) rfl (yld rfl rfl) (fun hg1 => ?_) (fun hc => ⟨fun hg1 => absurd hg1 hc, Ext.refl _⟩)
    obtain rfl := h24_ hg1
    refine (does_icmp (p := (n_ : Int)) (q := 9223372036854775807) (.inr (.inr (.inr (.inr (.inl rfl))))) (ev rfl) (ev rfl)).mono ?_; rintro _ _ ⟨rfl, rfl⟩
    exact ⟨fun _ => (by first | rfl | (show _ = _; simp only [hβ1]; done) | (show _ = _; simp only [hβ1]; rfl)), Ext.refl _⟩
  refine RW_d _ rfl (fun v => by dsimp only [List.set]; try rfl) (fun u hu hF => ?_) (fun v18 => ?_)
  · have h23_ : v15 = (Bo (icmp .gtr i8 0)) := hF.1
    have h25_ : (icmp .gtr i8 0) = false → v17 = (Bo β1) := hF.2.1
    clear hF
    refine doesG_un rfl ?_
    skip
    obtain rfl := h23_
    refine (does_pick (b := (icmp .gtr i8 0)) (u := (Bo true)) (v := v17) (ev rfl) (ev rfl) (ev rfl)).mono ?_; rintro _ _ ⟨rfl, rfl⟩; refine ⟨?_, Ext.refl _⟩; skip
    cases hbb : (icmp .gtr i8 0)
    all_goals first | (show _ = _; simp only [↓reduceIte, Bool.true_and, Bool.false_and, Bool.true_or, Bool.false_or, Bool.false_eq_true]; done) | (have e_ := h25_ hbb; subst e_; show _ = _; simp only [↓reduceIte, Bool.true_and, Bool.false_and, Bool.true_or, Bool.false_or, Bool.false_eq_true]; done) | rfl | (have e_ := h25_ hbb; subst e_; rfl) | (simp [hbb] at h25_ ⊢; first | done | rfl | (subst h25_; rfl) | simp_all) | (simp [hbb] at h25_ ⊢; done)
  refine RW_fin ?_; intro w19 E20 hP21
  obtain ⟨⟨⟨⟨⟨⟨-, -⟩, -⟩, -⟩, -⟩, -⟩, q22⟩ := hP21
  have X23 := Ext.gr X10 E20
  have q22 : v18 = (Bo ((icmp .gtr i8 0) || β1)) := q22
  obtain rfl := q22
  show wpList _ _ _ _ (fr [_, _, _, _, _, _, _, _, _, _, _, _, _, _, _, _, _, _, _, _, _, _, _, _, _, _, _, _, _, _, _, _, _, _, _, _, _, _, _, _, _, _, _, _, _, _, _, _]) _
  refine wpList_nil (hK12 _ _ ?_)
  refine wp_cond_split (t := (icmp .gtr i8 0) || β1) (ev rfl) (fun c24 => ?_) (fun c24 => ?_)
  · have c24' := c24
    (try simp only [hβ1] at c24')
    (try simp only [icmp, Bool.and_eq_true, Bool.or_eq_true, Bool.and_eq_false_iff, Bool.or_eq_false_iff, Bool.not_eq_true', Bool.not_eq_false', decide_eq_true_eq, decide_eq_false_iff_not, beq_iff_eq, bne_iff_ne, beq_eq_false_iff_ne, bne_eq_false_iff_eq] at c24')
    exfalso; have h_ := c24'; omega
  have c24' := c24
  (try simp only [hβ1] at c24')
  (try simp only [icmp, Bool.and_eq_true, Bool.or_eq_true, Bool.and_eq_false_iff, Bool.or_eq_false_iff, Bool.not_eq_true', Bool.not_eq_false', decide_eq_true_eq, decide_eq_false_iff_not, beq_iff_eq, bne_iff_ne, beq_eq_false_iff_ne, bne_eq_false_iff_eq] at c24')
  refine wp_skip (hK11 _ _ ?_)
  refine wp_seq_k fun K25 hK25 => ?_
  refine wp_region_lit ?_
  refine q_is rfl rfl (does_move (u := (.int .u64 (n_ : Int))) (ev rfl)) (by dsimp only [List.set]; try rfl) ?_
  refine q_is rfl rfl (does_conv_ii (r := (n_ : Int)) (k := .u64) (k' := .i64) (n := (n_ : Int)) Try.underlying93 Try.underlying3 (ev rfl) (in_i64 (by omega) (by omega)).symm) (by dsimp only [List.set]; try rfl) ?_
  refine seqd rfl rfl (does_makeSlice (n := n_) Try.underlying27 inf2 (ev rfl) (ev rfl) (by omega)) ?_; rintro _ w30 ⟨b26, rfl, hb27, ⟨cs31, hB28, hl32, hz33⟩, E29⟩
  have g34 : w.heap.size ≤ b26 := Nat.le_trans (Below.size X23) hb27
  have X35 := Ext.gr X23 E29
  have hR36 : RowG RI 1 w30 b26 (List.replicate n_ (0 : Int)) := RowG.made (z := (.int .i64 0)) hB28 rfl rfl hz33 rfl
  show wpList _ _ _ _ (fr [_, _, _, _, _, _, _, _, _, _, _, _, _, _, _, _, _, _, _, _, _, _, _, _, _, _, _, _, _, _, _, _, _, _, _, _, _, _, _, _, _, _, _, _, _, _, _, _]) _
  refine q_is rfl rfl (does_assign (u := (.slice (some ⟨b26, 0, none⟩) n_ n_)) (ev rfl)) (by dsimp only [List.set]; try rfl) ?_
  refine wpList_nil (hK25 _ _ ?_)
  refine wp_seq_k fun K37 hK37 => ?_
  refine wp_region_lit ?_
  refine q_is rfl rfl (does_move (u := (.slice (some ⟨b26, 0, none⟩) n_ n_)) (ev rfl)) (by dsimp only [List.set]; try rfl) ?_
  refine q_is rfl rfl (does_move (u := (.slice p_xs L_xs.length q_xs)) (ev rfl)) (by dsimp only [List.set]; try rfl) ?_
  refine seqd rfl rfl (does_copyOne' (b := b26) (n := n_) (z := (iAt L_xs 0)) hx0 Try.underlying27 (let ⟨i_, h1_, _, h3_, _⟩ := inf2; by rw [h1_, Option.map_some, h3_]) (ev rfl) (ev rfl) (Sl.ext hv_xs RI.mono X35) hR36) ?_; rintro _ w38 ⟨rfl, K39, hR40⟩
  have X41 := Below.kl X35 K39 (allS g34 all0) (Nat.le_refl _)
  show wpList _ _ _ _ (fr [_, _, _, _, _, _, _, _, _, _, _, _, _, _, _, _, _, _, _, _, _, _, _, _, _, _, _, _, _, _, _, _, _, _, _, _, _, _, _, _, _, _, _, _, _, _, _, _]) _
  refine q_is rfl rfl (does_assign (u := (Iv ((min 1 n_ : Nat) : Int))) (ev rfl)) (by dsimp only [List.set]; try rfl) ?_
  refine wpList_nil (hK37 _ _ ?_)
  refine wp_seq_k fun K42 hK42 => ?_
  refine wp_block ?_
  refine loop_ghost (σ := Nat) (fun k a w' => ∃ u43 : Nat → Value, a = fr [(.slice p_xs L_xs.length q_xs), (Iv (n_ : Int)), Ud, Ud, (.slice none 0 0), (.int .u64 i8), (.int .u64 (n_ : Int)), (.slice (some ⟨b26, 0, none⟩) n_ n_), (Iv (k : Int)), (Iv (n_ : Int)), (Bo (icmp .lss (n_ : Int) 0)), Ud, (.tuple #[(.int .u64 i8), (.int .u64 (n_ : Int))]), (.slice p_xs L_xs.length q_xs), (Iv (L_xs.length : Int)), (.int .u64 (L_xs.length : Int)), (Iv (n_ : Int)), (.int .u64 (n_ : Int)), (.tuple #[(.int .u64 i8), (.int .u64 (n_ : Int))]), (.int .u64 i8), (.int .u64 (n_ : Int)), v13, v14, v15, v16, v17, (Bo ((icmp .gtr i8 0) || β1)), Ud, (.int .u64 (n_ : Int)), (Iv (n_ : Int)), (.slice (some ⟨b26, 0, none⟩) n_ n_), (.slice (some ⟨b26, 0, none⟩) n_ n_), (.slice p_xs L_xs.length q_xs), (Iv ((min 1 n_ : Nat) : Int)), (u43 34), (u43 35), (u43 36), (u43 37), (u43 38), (u43 39), (u43 40), (u43 41), (u43 42), (u43 43), (u43 44), (u43 45), (u43 46), Ud] ∧ KpL [b26] w38 w' ∧ RowG RI 1 w' b26 (repTo n_ k (iAt L_xs 0)) ∧ ((0 < n_ → 1 ≤ k) ∧ k ≤ n_)) (fun k => n_ - k) (min 1 n_) ?_ ?_
  · refine ⟨fun t => (([(.slice p_xs L_xs.length q_xs), (Iv (n_ : Int)), Ud, Ud, (.slice none 0 0), (.int .u64 i8), (.int .u64 (n_ : Int)), (.slice (some ⟨b26, 0, none⟩) n_ n_), (Iv ((min 1 n_ : Nat) : Int)), (Iv (n_ : Int)), (Bo (icmp .lss (n_ : Int) 0)), Ud, (.tuple #[(.int .u64 i8), (.int .u64 (n_ : Int))]), (.slice p_xs L_xs.length q_xs), (Iv (L_xs.length : Int)), (.int .u64 (L_xs.length : Int)), (Iv (n_ : Int)), (.int .u64 (n_ : Int)), (.tuple #[(.int .u64 i8), (.int .u64 (n_ : Int))]), (.int .u64 i8), (.int .u64 (n_ : Int)), v13, v14, v15, v16, v17, (Bo ((icmp .gtr i8 0) || β1)), Ud, (.int .u64 (n_ : Int)), (Iv (n_ : Int)), (.slice (some ⟨b26, 0, none⟩) n_ n_), (.slice (some ⟨b26, 0, none⟩) n_ n_), (.slice p_xs L_xs.length q_xs), (Iv ((min 1 n_ : Nat) : Int)), Ud, Ud, Ud, Ud, Ud, Ud, Ud, Ud, Ud, Ud, Ud, Ud, Ud, Ud] : List Value)[t]?).getD undef, rfl, KpL.refl _ _, (RowG.cast hR40 (by (try dsimp only); try rfl)), ?_⟩
    omega
  · rintro k a w44 ⟨u43, rfl, E45, hRg0, ⟨hk1, hk⟩⟩
    have X47 := Below.kl X41 E45 (allS g34 all0) (Nat.le_refl _)
    have hR48 := hRg0; clear hRg0
    have hrl := repTo_len (x := iAt L_xs 0) hk
    refine wp_seq_k fun K49 hK49 => ?_
    refine wp_seq_k fun K50 hK50 => ?_
    refine wp_region_lit ?_
    refine q_is rfl rfl (does_move (u := (Iv (k : Int))) (ev rfl)) (by dsimp only [List.set]; try rfl) ?_
    refine q_is rfl rfl (does_move (u := (.slice (some ⟨b26, 0, none⟩) n_ n_)) (ev rfl)) (by dsimp only [List.set]; try rfl) ?_
    refine q_is rfl rfl (does_len_slice Try.underlying27 (ev rfl)) (by dsimp only [List.set]; try rfl) ?_
    refine q_is rfl rfl (does_icmp (p := (k : Int)) (q := (n_ : Int)) (.inr (.inr (.inl rfl))) (ev rfl) (ev rfl)) (by dsimp only [List.set]; try rfl) ?_
    refine wpList_nil (hK50 _ _ ?_)
    refine wp_cond_split (t := icmp .lss (k : Int) (n_ : Int)) (ev rfl) (fun c51 => ?_) (fun c51 => ?_)
    · have c51' := c51
      (try simp only [hβ1] at c51')
      (try simp only [icmp, Bool.and_eq_true, Bool.or_eq_true, Bool.and_eq_false_iff, Bool.or_eq_false_iff, Bool.not_eq_true', Bool.not_eq_false', decide_eq_true_eq, decide_eq_false_iff_not, beq_iff_eq, bne_iff_ne, beq_eq_false_iff_ne, bne_eq_false_iff_eq] at c51')
      refine wp_skip (hK49 _ _ ?_)
      refine wp_block ?_
      have n55 : b26 < w44.heap.size := RowG.lt hR48
      refine region_any2 [b26] [0, 0, 0, 6, 0, 0, 48, 126, 255, 511] [0] (
        [FactW.pure [] [0] [0] true (fun v => v = (Iv (k : Int))),
          FactW.pure [] [] [0] true (fun v => v = (.slice (some ⟨b26, 0, none⟩) n_ n_)),
          FactW.pure [] [] [0] true (fun v => v = (Iv (k : Int))),
          FactW.pure [1, 2] [] [0] true (fun v => v = (.slice (some ⟨b26, k, none⟩) (n_ - k) (n_ - k))),
          FactW.pure [] [] [0] true (fun v => v = (.slice (some ⟨b26, 0, none⟩) n_ n_)),
          FactW.pure [] [] [0] true (fun v => v = (Iv (k : Int))),
          FactW.pure [4, 5] [] [0] true (fun v => v = (.slice (some ⟨b26, 0, none⟩) k n_)),
          FactW.mem [3, 6] [] [0] [] true (fun v w' => v = (Iv ((min k (n_ - k) : Nat) : Int)) ∧ RowG RI 1 w' b26 (repTo n_ (k + min k (n_ - k)) (iAt L_xs 0))) (by rintro v w1 w2 hx ⟨hv, h⟩; exact ⟨hv, RowG.kl h RI.flat hx nin0⟩)]) mixed (by kernel_rfl) ?_
      obtain ⟨w52, hw54⟩ : ∃ w', w' = World.drew w44 := ⟨_, rfl⟩; rw [← hw54]; have E53 : Ext w44 w52 := by rw [hw54]; exact Ext.draw _
      clear hw54
      have X56 := Ext.gr X47 E53
      refine RW2_d _ rfl (fun v => by dsimp only [List.set]; try rfl) (fun u hu hF => ?_) (fun v57 => ?_)
      · replace hu : KpL [b26] _ _ := hu
        clear hF
        refine doesG_un rfl ?_
        refine (does_move (u := (Iv (k : Int))) (ev rfl)).mono ?_; rintro _ _ ⟨rfl, rfl⟩
        exact ⟨rfl, KpL.refl _ _⟩
      refine RW2_d _ rfl (fun v => by dsimp only [List.set]; try rfl) (fun u hu hF => ?_) (fun v58 => ?_)
      · replace hu : KpL [] _ _ := hu
        clear hF
        refine doesG_un rfl ?_
        refine (does_move (u := (.slice (some ⟨b26, 0, none⟩) n_ n_)) (ev rfl)).mono ?_; rintro _ _ ⟨rfl, rfl⟩
        exact ⟨rfl, KpL.refl _ _⟩
      refine RW2_d _ rfl (fun v => by dsimp only [List.set]; try rfl) (fun u hu hF => ?_) (fun v59 => ?_)
      · replace hu : KpL [] _ _ := hu
        clear hF
        refine doesG_un rfl ?_
        refine (does_move (u := (Iv (k : Int))) (ev rfl)).mono ?_; rintro _ _ ⟨rfl, rfl⟩
        exact ⟨rfl, KpL.refl _ _⟩
      refine RW2_d _ rfl (fun v => by dsimp only [List.set]; try rfl) (fun u hu hF => ?_) (fun v60 => ?_)
      · replace hu : KpL [] _ _ := hu
        have h39_ : v58 = (.slice (some ⟨b26, 0, none⟩) n_ n_) := hF.1
        have h40_ : v59 = (Iv (k : Int)) := hF.2.1
        clear hF
        refine doesG_un rfl ?_
        obtain rfl := h39_
        obtain rfl := h40_
        refine (does_sliceLo (b := b26) (n := n_) (c := n_) (j := (k : Int)) Try.underlying27 Try.sizeOf2 (ev rfl) (ev rfl) (by omega) (by omega) (by omega)).mono ?_; rintro _ _ ⟨rfl, rfl⟩
        exact ⟨rfl, KpL.refl _ _⟩
      refine RW2_d _ rfl (fun v => by dsimp only [List.set]; try rfl) (fun u hu hF => ?_) (fun v61 => ?_)
      · replace hu : KpL [] _ _ := hu
        clear hF
        refine doesG_un rfl ?_
        refine (does_move (u := (.slice (some ⟨b26, 0, none⟩) n_ n_)) (ev rfl)).mono ?_; rintro _ _ ⟨rfl, rfl⟩
        exact ⟨rfl, KpL.refl _ _⟩
      refine RW2_d _ rfl (fun v => by dsimp only [List.set]; try rfl) (fun u hu hF => ?_) (fun v62 => ?_)
      · replace hu : KpL [] _ _ := hu
        clear hF
        refine doesG_un rfl ?_
        refine (does_move (u := (Iv (k : Int))) (ev rfl)).mono ?_; rintro _ _ ⟨rfl, rfl⟩
        exact ⟨rfl, KpL.refl _ _⟩
      refine RW2_d _ rfl (fun v => by dsimp only [List.set]; try rfl) (fun u hu hF => ?_) (fun v63 => ?_)
      · replace hu : KpL [] _ _ := hu
        have h42_ : v61 = (.slice (some ⟨b26, 0, none⟩) n_ n_) := hF.1
        have h43_ : v62 = (Iv (k : Int)) := hF.2.1
        clear hF
        refine doesG_un rfl ?_
        obtain rfl := h42_
        obtain rfl := h43_
        refine (does_sliceHi (b := b26) (n := n_) (c := n_) (j := (k : Int)) Try.underlying27 Try.sizeOf2 (ev rfl) (ev rfl) (by omega) (by omega) (by omega)).mono ?_; rintro _ _ ⟨rfl, rfl⟩
        exact ⟨rfl, KpL.refl _ _⟩
      refine RW2_d _ rfl (fun v => by dsimp only [List.set]; try rfl) (fun u hu hF => ?_) (fun v64 => ?_)
      · replace hu : KpL [] _ _ := hu
        have h41_ : v60 = (.slice (some ⟨b26, k, none⟩) (n_ - k) (n_ - k)) := hF.1
        have h44_ : v63 = (.slice (some ⟨b26, 0, none⟩) k n_) := hF.2.1
        clear hF
        refine doesG_un rfl ?_
        obtain rfl := h41_
        obtain rfl := h44_
        refine (does_copySelf (b := b26) (n := n_) (j := k) (z := (iAt L_xs 0)) Try.underlying27 (let ⟨i_, h1_, _, h3_, _⟩ := inf2; by rw [h1_, Option.map_some, h3_]) (ev rfl) (ev rfl) (RowG.ext (RowG.ext hR48 RI.flat E53) RI.flat (KpL.toExt hu)) (by omega)).mono ?_; rintro _ _ ⟨rfl, hK, hR⟩; exact ⟨⟨rfl, hR⟩, hK⟩
      refine RW2_fin ?_; intro w65 E66 hP67; replace E66 : KpL [b26] _ _ := E66
      obtain ⟨⟨⟨⟨⟨⟨⟨⟨-, q68⟩, -⟩, -⟩, -⟩, -⟩, -⟩, -⟩, q69⟩ := hP67
      have X70 := Below.kl X56 E66 (allS g34 all0) (Nat.le_refl _)
      have hB71 := (q69 rfl).2
      have q68 : v57 = (Iv (k : Int)) := q68 rfl
      obtain rfl := q68
      have hv72 : v64 = (Iv ((min k (n_ - k) : Nat) : Int)) := (q69 rfl).1; subst hv72
      show wpList _ _ _ _ (fr [_, _, _, _, _, _, _, _, _, _, _, _, _, _, _, _, _, _, _, _, _, _, _, _, _, _, _, _, _, _, _, _, _, _, _, _, _, _, _, _, _, _, _, _, _, _, _, _]) _
      refine q_is rfl rfl (does_iarith (p := (k : Int)) (q := ((min k (n_ - k) : Nat) : Int)) (r := (k : Int) + ((min k (n_ - k) : Nat) : Int)) (ev rfl) (ev rfl) (.inl ⟨rfl, (in_i64 (by omega) (by omega)).symm⟩)) (by dsimp only [List.set]; try rfl) ?_
      refine q_is rfl rfl (does_assign (u := (Iv ((k : Int) + ((min k (n_ - k) : Nat) : Int)))) (ev rfl)) (by dsimp only [List.set]; try rfl) ?_
      refine wpList_nil ?_
      have hR73 := RowG.cast (ys := ((fun (k : Nat) => repTo n_ k (iAt L_xs 0)) (k + min k (n_ - k)))) hB71 (by (try dsimp only); try rfl)
      refine ⟨k + min k (n_ - k), ⟨fun t => (([(.slice p_xs L_xs.length q_xs), (Iv (n_ : Int)), Ud, Ud, (.slice none 0 0), (.int .u64 i8), (.int .u64 (n_ : Int)), (.slice (some ⟨b26, 0, none⟩) n_ n_), (Iv ((k : Int) + ((min k (n_ - k) : Nat) : Int))), (Iv (n_ : Int)), (Bo (icmp .lss (n_ : Int) 0)), Ud, (.tuple #[(.int .u64 i8), (.int .u64 (n_ : Int))]), (.slice p_xs L_xs.length q_xs), (Iv (L_xs.length : Int)), (.int .u64 (L_xs.length : Int)), (Iv (n_ : Int)), (.int .u64 (n_ : Int)), (.tuple #[(.int .u64 i8), (.int .u64 (n_ : Int))]), (.int .u64 i8), (.int .u64 (n_ : Int)), v13, v14, v15, v16, v17, (Bo ((icmp .gtr i8 0) || β1)), Ud, (.int .u64 (n_ : Int)), (Iv (n_ : Int)), (.slice (some ⟨b26, 0, none⟩) n_ n_), (.slice (some ⟨b26, 0, none⟩) n_ n_), (.slice p_xs L_xs.length q_xs), (Iv ((min 1 n_ : Nat) : Int)), (Iv (k : Int)), (.slice (some ⟨b26, 0, none⟩) n_ n_), (Iv (n_ : Int)), (Bo (icmp .lss (k : Int) (n_ : Int))), (Iv (k : Int)), v58, v59, v60, v61, v62, v63, (Iv ((min k (n_ - k) : Nat) : Int)), (Iv ((k : Int) + ((min k (n_ - k) : Nat) : Int))), Ud] : List Value)[t]?).getD undef, ?_, (KpL.more (KpL.ext E45 E53) E66 (allS (.inl (by simp)) all0)), hR73, ?_⟩, ?_⟩
      · first | rfl | (simp only [Int.natCast_add, Int.natCast_one]; rfl)
      · omega
      · omega
    have c51' := c51
    (try simp only [hβ1] at c51')
    (try simp only [icmp, Bool.and_eq_true, Bool.or_eq_true, Bool.and_eq_false_iff, Bool.or_eq_false_iff, Bool.not_eq_true', Bool.not_eq_false', decide_eq_true_eq, decide_eq_false_iff_not, beq_iff_eq, bne_iff_ne, beq_eq_false_iff_ne, bne_eq_false_iff_eq] at c51')
    refine wp_exit ?_
    refine hK42 _ _ ?_
    refine wp_seq_k fun K74 hK74 => ?_
    refine wp_region_lit ?_
    refine q_is rfl rfl (does_move (u := (.slice (some ⟨b26, 0, none⟩) n_ n_)) (ev rfl)) (by dsimp only [List.set]; try rfl) ?_
    refine q_is rfl rfl (does_assign (u := (.slice (some ⟨b26, 0, none⟩) n_ n_)) (ev rfl)) (by dsimp only [List.set]; try rfl) ?_
    refine wpList_nil (hK74 _ _ ?_)
    refine wp_ret ?_
    refine ret_val (v := (.slice (some ⟨b26, 0, none⟩) n_ n_)) (res_T rfl (slot rfl)) X47 ?_
    try simp only [hβ1] at c4 c24 c51
    have x75 : (repTo n_ k (iAt L_xs 0)) = (List.replicate n_ (iAt L_xs 0)) := by first | rfl | (rw [repTo_all (by omega), show k = n_ by omega])
    have x76 : (repTo n_ k (iAt L_xs 0)) = (List.replicate n_ (iAt L_xs 0)) := by first | rfl | (rw [repTo_all (by omega), show k = n_ by omega])
    exact ⟨(.slice (some ⟨b26, 0, none⟩) n_ n_), [b26], rfl, (Hang.castL (RowG.hang hR48 RI.flat (by first | assumption | omega | (simp only [List.length_replicate, List.length_set, List.length_replicate]; omega) | (simp only [List.length_replicate, List.length_set, List.length_replicate]; done)) g34 (Nat.le_refl _) (by omega) (by decide)) x75), (WL.cast (WL.cast (RowG.wl hR48 (by first | assumption | omega | (simp only [List.length_replicate, List.length_set, List.length_replicate]; omega) | (simp only [List.length_replicate, List.length_set, List.length_replicate]; done)) g34 (Nat.le_refl _)) (by first | rfl | (symm; first | assumption | omega | (simp only [List.length_replicate, List.length_set, List.length_replicate]; omega) | (simp only [List.length_replicate, List.length_set, List.length_replicate]; done)))) (congrArg List.length x76))⟩

/- impl.numbered -/
theorem c_impl_numbered (n_ : Nat) (counts : Value) (D_counts : Int → Prop) (pr_counts : Int → Bool) (beside : Value) (D_beside : Int → Prop) (pr_beside : Int → List Int) (w : World) (hv_counts : ∃ fi fst cap, counts = .func (.func fi) fst cap ∧ (∀ args w, (callFunc fi args).run Try.prog w = .ok (.enter fi args) w) ∧ ∀ (y : Int) u, D_counts y → Ext w u → Gives Try.prog fi (fst ++ #[Iv y] ++ cap) u (fun v _ => v = .bool (pr_counts y))) (hv_beside : ∃ fi fst cap, beside = .func (.func fi) fst cap ∧ (∀ args w, (callFunc fi args).run Try.prog w = .ok (.enter fi args) w) ∧ ∀ (y : Int) u, D_beside y → Ext w u → Gives Try.prog fi (fst ++ #[Iv y] ++ cap) u (fun v _ => ∃ y_1 : Value, v = y_1 ∧ Sl RI 1 w y_1 (pr_beside y))) (hn : n_ ≤ 1000000) (G : Gr n_ pr_counts pr_beside) (hD1 : ∀ y : Int, 0 ≤ y ∧ y < n_ → D_counts y) (hD2 : ∀ y : Int, 0 ≤ y ∧ y < n_ → pr_counts y = true → D_beside y) (hlb : ∀ y : Int, 0 ≤ y ∧ y < n_ → (pr_beside y).length ≤ 1000000) : Gives Try.prog 27 #[(Iv (n_ : Int)), counts, beside] w (fun v w' => ∃ y_1 : Value, ∃ Lw_2 : List Nat, v = (.tuple #[y_1, (Iv ((numTo n_ pr_counts pr_beside n_).2))]) ∧ Hang w.heap.size w' (fun u => Sl RI 1 u y_1 ((numTo n_ pr_counts pr_beside n_).1)) ∧ WL 1 w.heap.size w' Lw_2 y_1 ((numTo n_ pr_counts pr_beside n_).1).length) := by
  obtain ⟨f_counts, s_counts, c_counts, rfl, hcal_counts, hg_counts⟩ := hv_counts
  obtain ⟨f_beside, s_beside, c_beside, rfl, hcal_beside, hg_beside⟩ := hv_beside
  have hrl : (List.replicate n_ (iAt ([-1]) 0)).length = n_ := List.length_replicate
  refine enter [(Iv (n_ : Int)), (.func (.func f_counts) s_counts c_counts), (.func (.func f_beside) s_beside c_beside), Ud, Ud, Ud, Ud, Ud, Ud, Ud, Ud, Ud, Ud, Ud, Ud, Ud, Ud, Ud, Ud, Ud, Ud, Ud, Ud, Ud, Ud, Ud, Ud, Ud, Ud, Ud, Ud, Ud, Ud, Ud, Ud, Ud, Ud, Ud, Ud, Ud, Ud, Ud, Ud, Ud, Ud, Ud, Ud, Ud, Ud, Ud, Ud, Ud, Ud, Ud, Ud, Ud, Ud, Ud, Ud, Ud, Ud, Ud, Ud, Ud, Ud, Ud, Ud, Ud, Ud, Ud, Ud, Ud, Ud, Ud, Ud, Ud, Ud] Try.func27 rfl Try.ntmps27 rfl ?_
  refine wp_seq_k fun K1 hK1 => ?_
  refine wp_region_lit ?_
  refine q_is rfl rfl (does_assign (u := (.slice none 0 0)) (ev rfl)) (by dsimp only [List.set]; try rfl) ?_
  refine q_is rfl rfl (does_assign (u := (Iv 0)) (ev rfl)) (by dsimp only [List.set]; try rfl) ?_
  refine wpList_nil (hK1 _ _ ?_)
  refine wp_seq_k fun K2 hK2 => ?_
  refine wp_region_lit ?_
  refine seqd rfl rfl (does_buildSlice (e := 2) (parts' := [(0, (Iv (-1)))]) (cells := [(Iv (-1))]) (evp rfl) (fun _ => by kernel_rfl)) ?_; rintro _ w7 ⟨b3, rfl, hb4, hB5, E6⟩
  have g8 : w.heap.size ≤ b3 := Nat.le_trans (Below.size (Ext.refl w)) hb4
  have X9 := Ext.gr (Ext.refl w) E6
  show wpList _ _ _ _ (fr [_, _, _, _, _, _, _, _, _, _, _, _, _, _, _, _, _, _, _, _, _, _, _, _, _, _, _, _, _, _, _, _, _, _, _, _, _, _, _, _, _, _, _, _, _, _, _, _, _, _, _, _, _, _, _, _, _, _, _, _, _, _, _, _, _, _, _, _, _, _, _, _, _, _, _, _, _]) _
  refine q_is rfl rfl (does_move (u := (Iv (n_ : Int))) (ev rfl)) (by dsimp only [List.set]; try rfl) ?_
  refine seqd rfl rfl (does_call (args := #[(.slice (some ⟨b3, 0, none⟩) 1 1), (Iv (n_ : Int))]) cal52 (evs rfl) (c_slices_Repeat_int64_int64 (.slice (some ⟨b3, 0, none⟩) 1 1) [-1] n_ _ (Sl_lit1 hB5 rfl) (by rfl) (by exact hn))) ?_; rintro _ w11 ⟨E10, ⟨y13, Lw14, rfl, hh12, hw15⟩⟩
  have X16 := Ext.gr X9 E10
  have n17 : b3 < w7.heap.size := Blk.lt hB5
  obtain ⟨p18, q19, rfl⟩ := Sl.shape hh12.get
  have hw20 : WL 1 w7.heap.size w11 Lw14 (.slice p18 ((List.replicate n_ (iAt ([-1]) 0)).length) q19) (List.replicate n_ (iAt ([-1]) 0)).length := hw15
  show wpList _ _ _ _ (fr [_, _, _, _, _, _, _, _, _, _, _, _, _, _, _, _, _, _, _, _, _, _, _, _, _, _, _, _, _, _, _, _, _, _, _, _, _, _, _, _, _, _, _, _, _, _, _, _, _, _, _, _, _, _, _, _, _, _, _, _, _, _, _, _, _, _, _, _, _, _, _, _, _, _, _, _, _]) _
  refine q_is rfl rfl (does_assign (u := (.slice p18 ((List.replicate n_ (iAt ([-1]) 0)).length) q19)) (ev rfl)) (by dsimp only [List.set]; try rfl) ?_
  refine q_is rfl rfl (does_assign (u := (Iv 0)) (ev rfl)) (by dsimp only [List.set]; try rfl) ?_
  refine wpList_nil (hK2 _ _ ?_)
  refine wp_seq_k fun K21 hK21 => ?_
  refine wp_seq_k fun K22 hK22 => ?_
  rcases Nat.eq_zero_or_pos n_ with hz0 | hz0
  · refine wp_region_lit ?_
    refine q_is rfl rfl (does_move (u := (Iv (n_ : Int))) (ev rfl)) (by dsimp only [List.set]; try rfl) ?_
    refine q_is rfl rfl (does_move (u := (Iv 0)) (ev rfl)) (by dsimp only [List.set]; try rfl) ?_
    refine wpList_nil (hK22 _ _ ?_)
    refine wp_block ?_
    refine loop_unroll 1 ?_
    refine un_step ?_
    refine wp_seq_k fun K23 hK23 => ?_
    refine wp_region_lit ?_
    refine q_is rfl rfl (does_icmp (p := 0) (q := (n_ : Int)) (.inr (.inr (.inl rfl))) (ev rfl) (ev rfl)) (by dsimp only [List.set]; try rfl) ?_
    refine wpList_nil (hK23 _ _ ?_)
    refine wp_seq_k fun K24 hK24 => ?_
    refine wp_cond_split (t := icmp .lss 0 (n_ : Int)) (ev rfl) (fun c25 => ?_) (fun c25 => ?_)
    · have c25' := c25
      (try simp only [icmp, Bool.and_eq_true, Bool.or_eq_true, Bool.and_eq_false_iff, Bool.or_eq_false_iff, Bool.not_eq_true', Bool.not_eq_false', decide_eq_true_eq, decide_eq_false_iff_not, beq_iff_eq, bne_iff_ne, beq_eq_false_iff_ne, bne_eq_false_iff_eq] at c25')
      exfalso; simp only [icmp, decide_eq_true_eq] at c25; omega
    have c25' := c25
    (try simp only [icmp, Bool.and_eq_true, Bool.or_eq_true, Bool.and_eq_false_iff, Bool.or_eq_false_iff, Bool.not_eq_true', Bool.not_eq_false', decide_eq_true_eq, decide_eq_false_iff_not, beq_iff_eq, bne_iff_ne, beq_eq_false_iff_ne, bne_eq_false_iff_eq] at c25')
    refine wp_exit ?_
    refine hK21 _ _ ?_
    refine wp_seq_k fun K26 hK26 => ?_
    refine wp_region_lit ?_
    refine q_is rfl rfl (does_move (u := (.slice p18 ((List.replicate n_ (iAt ([-1]) 0)).length) q19)) (ev rfl)) (by dsimp only [List.set]; try rfl) ?_
    refine q_is rfl rfl (does_move (u := (Iv 0)) (ev rfl)) (by dsimp only [List.set]; try rfl) ?_
    refine q_is rfl rfl (does_assign (u := (.slice p18 ((List.replicate n_ (iAt ([-1]) 0)).length) q19)) (ev rfl)) (by dsimp only [List.set]; try rfl) ?_
    refine q_is rfl rfl (does_assign (u := (Iv 0)) (ev rfl)) (by dsimp only [List.set]; try rfl) ?_
    refine wpList_nil (hK26 _ _ ?_)
    refine wp_ret ?_
    refine ret_val (v := (.tuple #[(.slice p18 ((List.replicate n_ (iAt ([-1]) 0)).length) q19), (Iv 0)])) (res_TT rfl (slot rfl) (slot rfl)) X16 ?_
    have x27 : ((numTo n_ pr_counts pr_beside n_).2 : Int) = 0 := by (subst hz0; rfl)
    have x28 : (List.replicate n_ (iAt ([-1]) 0)) = ((numTo n_ pr_counts pr_beside n_).1) := by (subst hz0; rfl)
    have x29 : (List.replicate n_ (iAt ([-1]) 0)) = ((numTo n_ pr_counts pr_beside n_).1) := by (subst hz0; rfl)
    exact ⟨(.slice p18 ((List.replicate n_ (iAt ([-1]) 0)).length) q19), Lw14, (by first | with_reducible rfl | rw [x27] | rfl), (Hang.castL (hh12.le (Below.size (Ext.gr (Ext.refl _) E6))) x28), (WL.cast (hw20.le (Below.size (Ext.gr (Ext.refl _) E6))) (congrArg List.length x29))⟩
  refine wp_region_lit ?_
  refine q_is rfl rfl (does_move (u := (Iv (n_ : Int))) (ev rfl)) (by dsimp only [List.set]; try rfl) ?_
  refine q_is rfl rfl (does_move (u := (Iv 0)) (ev rfl)) (by dsimp only [List.set]; try rfl) ?_
  refine wpList_nil (hK22 _ _ ?_)
  refine wp_block ?_
  have n30 : b3 < w11.heap.size := Blk.lt (hB5.ext E10)
  obtain ⟨gr31, hp32, hL33, hR34, hcap35, hB36⟩ := WL.rowg (R := RI) (k := 1) hw20 hh12.get (by omega)
  have n37 : b3 ≠ gr31 := Nat.ne_of_lt (Nat.lt_of_lt_of_le n17 hB36)
  have g38 : w.heap.size ≤ gr31 := Nat.le_trans (Below.size E6) hB36
  subst hp32
  subst hL33
  have hl39 := RowG.lt hR34
  refine loop_ghost (σ := Nat) (fun k a w' => ∃ u40 : Nat → Value, a = fr [(Iv (n_ : Int)), (.func (.func f_counts) s_counts c_counts), (.func (.func f_beside) s_beside c_beside), Ud, Ud, Ud, (.slice none 0 0), (Iv 0), (.slice (some ⟨gr31, 0, none⟩) ((List.replicate n_ (iAt ([-1]) 0)).length) q19), (Iv ((numTo n_ pr_counts pr_beside k).2)), (u40 10), (u40 11), Ud, (u40 13), (.slice (some ⟨b3, 0, none⟩) 1 1), (Iv (n_ : Int)), (.slice (some ⟨gr31, 0, none⟩) ((List.replicate n_ (iAt ([-1]) 0)).length) q19), (Iv (n_ : Int)), (Iv (k : Int)), (u40 19), (u40 20), (u40 21), (u40 22), (u40 23), (u40 24), (u40 25), (u40 26), (u40 27), (u40 28), (u40 29), (u40 30), (u40 31), (u40 32), (u40 33), (u40 34), (u40 35), (u40 36), (u40 37), (u40 38), (u40 39), (u40 40), (u40 41), (u40 42), (u40 43), (u40 44), (u40 45), (u40 46), (u40 47), (u40 48), (u40 49), (u40 50), (u40 51), (u40 52), (u40 53), (u40 54), (u40 55), (u40 56), (u40 57), (u40 58), (u40 59), (u40 60), (u40 61), (u40 62), (u40 63), (u40 64), (u40 65), (u40 66), (u40 67), (u40 68), (u40 69), (u40 70), (u40 71), (u40 72), (u40 73), (u40 74), Ud, Ud] ∧ KpL [gr31] w11 w' ∧ RowG RI 1 w' gr31 ((numTo n_ pr_counts pr_beside k).1) ∧ (k ≤ n_)) (fun k => n_ - k) 0 ?_ ?_
  · refine ⟨fun t => (([(Iv (n_ : Int)), (.func (.func f_counts) s_counts c_counts), (.func (.func f_beside) s_beside c_beside), Ud, Ud, Ud, (.slice none 0 0), (Iv 0), (.slice (some ⟨gr31, 0, none⟩) ((List.replicate n_ (iAt ([-1]) 0)).length) q19), (Iv 0), Ud, Ud, Ud, Ud, (.slice (some ⟨b3, 0, none⟩) 1 1), (Iv (n_ : Int)), (.slice (some ⟨gr31, 0, none⟩) ((List.replicate n_ (iAt ([-1]) 0)).length) q19), (Iv (n_ : Int)), (Iv 0), Ud, Ud, Ud, Ud, Ud, Ud, Ud, Ud, Ud, Ud, Ud, Ud, Ud, Ud, Ud, Ud, Ud, Ud, Ud, Ud, Ud, Ud, Ud, Ud, Ud, Ud, Ud, Ud, Ud, Ud, Ud, Ud, Ud, Ud, Ud, Ud, Ud, Ud, Ud, Ud, Ud, Ud, Ud, Ud, Ud, Ud, Ud, Ud, Ud, Ud, Ud, Ud, Ud, Ud, Ud, Ud, Ud, Ud] : List Value)[t]?).getD undef, rfl, KpL.refl _ _, (RowG.cast hR34 (by (try dsimp only); rfl)), ?_⟩
    exact Nat.zero_le _
  · rintro k a w41 ⟨u40, rfl, E42, hRg0, hk⟩
    have X44 := Below.kl X16 E42 (allS g38 all0) (Nat.le_refl _)
    have hR45 := hRg0; clear hRg0
    have hkl := numTo_len n_ pr_counts pr_beside k
    have hkm := numTo_m n_ pr_counts pr_beside k
    refine wp_seq_k fun K46 hK46 => ?_
    refine wp_region_lit ?_
    refine q_is rfl rfl (does_icmp (p := (k : Int)) (q := (n_ : Int)) (.inr (.inr (.inl rfl))) (ev rfl) (ev rfl)) (by dsimp only [List.set]; try rfl) ?_
    refine wpList_nil (hK46 _ _ ?_)
    refine wp_seq_k fun K47 hK47 => ?_
    refine wp_cond_split (t := icmp .lss (k : Int) (n_ : Int)) (ev rfl) (fun c48 => ?_) (fun c48 => ?_)
    · have c48' := c48
      (try simp only [icmp, Bool.and_eq_true, Bool.or_eq_true, Bool.and_eq_false_iff, Bool.or_eq_false_iff, Bool.not_eq_true', Bool.not_eq_false', decide_eq_true_eq, decide_eq_false_iff_not, beq_iff_eq, bne_iff_ne, beq_eq_false_iff_ne, bne_eq_false_iff_eq] at c48')
      refine wp_skip (hK47 _ _ ?_)
      refine wp_seq_k fun K49 hK49 => ?_
      refine wp_block ?_
      refine wp_seq_k fun K50 hK50 => ?_
      refine wp_region_lit ?_
      refine q_is rfl rfl (does_move (u := (Iv (k : Int))) (ev rfl)) (by dsimp only [List.set]; try rfl) ?_
      refine q_is rfl rfl (does_assign (u := (Iv (k : Int))) (ev rfl)) (by dsimp only [List.set]; try rfl) ?_
      refine wpList_nil (hK50 _ _ ?_)
      refine wp_seq_k fun K51 hK51 => ?_
      refine wp_seq_k fun K52 hK52 => ?_
      obtain ⟨el1, hel1⟩ : ∃ e, ((numTo n_ pr_counts pr_beside k).1)[k]? = some e := ⟨_, List.getElem?_eq_getElem (by first | assumption | omega | (simp only [numTo_len, List.length_replicate, List.length_set, List.length_set, List.length_replicate]; omega) | (simp only [numTo_len, List.length_replicate, List.length_set, List.length_set, List.length_replicate]; done))⟩
      obtain ⟨β1, hβ1⟩ : ∃ b : Bool, b = ((icmp .geq el1 0) || (!(pr_counts (k : Int)))) := ⟨_, rfl⟩
      refine region_text (
        [Fact.pure [] (fun v => v = (.slice (some ⟨gr31, 0, none⟩) ((List.replicate n_ (iAt ([-1]) 0)).length) q19)),
    Fact.pure [] (fun v => v = (Iv (k : Int))),
    Fact.pure [21, 22] (fun v => v = (Pt gr31 (k * 1))),
    Fact.pure [23] (fun v => v = (Iv el1)),
    Fact.pure [24] (fun v => v = (Bo (icmp .geq el1 0))),
    Fact.pure [25] (fun v => v = (Bo (icmp .geq el1 0))),
    Fact.pure [26] (fun v => (icmp .geq el1 0) = false → v = (.func (.func f_counts) s_counts c_counts)),
    Fact.pure [26] (fun v => (icmp .geq el1 0) = false → v = (Iv (k : Int))),
    Fact.pure [28, 27, 26] (fun v => (icmp .geq el1 0) = false → v = (Bo (pr_counts (k : Int)))),
    Fact.pure [29, 26] (fun v => (icmp .geq el1 0) = false → v = (Bo (!(pr_counts (k : Int))))),
    Fact.pure [26, 30] (fun v => v = (Bo β1))]) (by simp [Fact.pure, Fact.mem]) ?_
      refine RW_d _ rfl (fun v => by dsimp only [List.set]; try rfl) (fun u hu hF => ?_) (fun v53 => ?_)
      · clear hF
        refine doesG_un rfl ?_
        refine (does_move (u := (.slice (some ⟨gr31, 0, none⟩) ((List.replicate n_ (iAt ([-1]) 0)).length) q19)) (ev rfl)).mono ?_; rintro _ _ ⟨rfl, rfl⟩
        exact ⟨rfl, Ext.refl _⟩
      refine RW_d _ rfl (fun v => by dsimp only [List.set]; try rfl) (fun u hu hF => ?_) (fun v54 => ?_)
      · clear hF
        refine doesG_un rfl ?_
        refine (does_move (u := (Iv (k : Int))) (ev rfl)).mono ?_; rintro _ _ ⟨rfl, rfl⟩
        exact ⟨rfl, Ext.refl _⟩
      refine RW_d _ rfl (fun v => by dsimp only [List.set]; try rfl) (fun u hu hF => ?_) (fun v55 => ?_)
      · have h21_ : v53 = (.slice (some ⟨gr31, 0, none⟩) ((List.replicate n_ (iAt ([-1]) 0)).length) q19) := hF.1
        have h22_ : v54 = (Iv (k : Int)) := hF.2.1
        clear hF
        refine doesG_un rfl ?_
        obtain rfl := h21_
        obtain rfl := h22_
        refine (does_indexOwn (b := gr31) (n := (List.replicate n_ (iAt ([-1]) 0)).length) (i := (k : Int)) Try.underlying27 Try.sizeOf2 (ev rfl) (ev rfl) (by omega) (by omega)).mono ?_; rintro _ _ ⟨rfl, rfl⟩
        exact ⟨rfl, Ext.refl _⟩
      refine RW_d _ rfl (fun v => by dsimp only [List.set]; try rfl) (fun u hu hF => ?_) (fun v56 => ?_)
      · have h23_ : v55 = (Pt gr31 (k * 1)) := hF.1
        clear hF
        refine doesG_un rfl ?_
        obtain rfl := h23_
        refine (does_loadRowI (xs := ((numTo n_ pr_counts pr_beside k).1)) (i := k) (e := el1) (ev rfl) Try.isAgg2 (RowG.ext hR45 RI.flat hu) rfl hel1).mono ?_; rintro _ _ ⟨rfl, rfl⟩
        exact ⟨rfl, Ext.refl _⟩
      refine RW_d _ rfl (fun v => by dsimp only [List.set]; try rfl) (fun u hu hF => ?_) (fun v57 => ?_)
      · have h24_ : v56 = (Iv el1) := hF.1
        clear hF
        refine doesG_un rfl ?_
        obtain rfl := h24_
        refine (does_icmp (p := el1) (q := 0) (.inr (.inr (.inr (.inr (.inr rfl))))) (ev rfl) (ev rfl)).mono ?_; rintro _ _ ⟨rfl, rfl⟩
        exact ⟨rfl, Ext.refl _⟩
      refine RW_d _ rfl (fun v => by dsimp only [List.set]; try rfl) (fun u hu hF => ?_) (fun v58 => ?_)
      · have h25_ : v57 = (Bo (icmp .geq el1 0)) := hF.1
        clear hF
        refine doesG_un rfl ?_
        obtain rfl := h25_
        refine (does_move (u := (Bo (icmp .geq el1 0))) (ev rfl)).mono ?_; rintro _ _ ⟨rfl, rfl⟩
        exact ⟨rfl, Ext.refl _⟩
      refine RW_d _ rfl (fun v => by dsimp only [List.set]; try rfl) (fun u hu hF => ?_) (fun v59 => ?_)
      · have h26_ : v58 = (Bo (icmp .geq el1 0)) := hF.1
        clear hF
        obtain rfl := h26_
        refine doesG_g (b := (icmp .geq el1 0)) rfl (yld rfl rfl) (fun hg1 => ?_) (fun hc => ⟨fun hg1 => absurd hg1 hc, Ext.refl _⟩)
        refine (does_move (u := (.func (.func f_counts) s_counts c_counts)) (ev rfl)).mono ?_; rintro _ _ ⟨rfl, rfl⟩
        exact ⟨fun _ => rfl, Ext.refl _⟩
      refine RW_d _ rfl (fun v => by dsimp only [List.set]; try rfl) (fun u hu hF => ?_) (fun v60 => ?_)
      · have h26_ : v58 = (Bo (icmp .geq el1 0)) := hF.1
        clear hF
        obtain rfl := h26_
        refine doesG_g (b := (icmp .geq el1 0)) rfl (yld rfl rfl) (fun hg1 => ?_) (fun hc => ⟨fun hg1 => absurd hg1 hc, Ext.refl _⟩)
        refine (does_move (u := (Iv (k : Int))) (ev rfl)).mono ?_; rintro _ _ ⟨rfl, rfl⟩
        exact ⟨fun _ => rfl, Ext.refl _⟩
      refine RW_d _ rfl (fun v => by dsimp only [List.set]; try rfl) (fun u hu hF => ?_) (fun v61 => ?_)
      · have h28_ : (icmp .geq el1 0) = false → v60 = (Iv (k : Int)) := hF.1
        have h27_ : (icmp .geq el1 0) = false → v59 = (.func (.func f_counts) s_counts c_counts) := hF.2.1
        have h26_ : v58 = (Bo (icmp .geq el1 0)) := hF.2.2.1
        clear hF
        obtain rfl := h26_
        refine doesG_g (b := (icmp .geq el1 0)) rfl (yld rfl rfl) (fun hg1 => ?_) (fun hc => ⟨fun hg1 => absurd hg1 hc, Ext.refl _⟩)
        obtain rfl := h28_ hg1
        obtain rfl := h27_ hg1
        refine (does_callf (args := #[(Iv (k : Int))]) (ev rfl) hcal_counts (evs rfl) (hg_counts (k : Int) _ (by exact hD1 _ (by omega)) (Ext.gr X44 hu))).mono ?_; rintro v u' ⟨hx, hv⟩
        exact ⟨fun _ => hv, hx⟩
      refine RW_d _ rfl (fun v => by dsimp only [List.set]; try rfl) (fun u hu hF => ?_) (fun v62 => ?_)
      · have h29_ : (icmp .geq el1 0) = false → v61 = (Bo (pr_counts (k : Int))) := hF.1
        have h26_ : v58 = (Bo (icmp .geq el1 0)) := hF.2.1
        clear hF
        obtain rfl := h26_
        refine doesG_g (b := (icmp .geq el1 0)) rfl (yld rfl rfl) (fun hg1 => ?_) (fun hc => ⟨fun hg1 => absurd hg1 hc, Ext.refl _⟩)
        obtain rfl := h29_ hg1
        refine (does_not (ev rfl)).mono ?_; rintro _ _ ⟨rfl, rfl⟩
        exact ⟨fun _ => rfl, Ext.refl _⟩
      refine RW_d _ rfl (fun v => by dsimp only [List.set]; try rfl) (fun u hu hF => ?_) (fun v63 => ?_)
      · have h26_ : v58 = (Bo (icmp .geq el1 0)) := hF.1
        have h30_ : (icmp .geq el1 0) = false → v62 = (Bo (!(pr_counts (k : Int)))) := hF.2.1
        clear hF
        refine doesG_un rfl ?_
        skip
        obtain rfl := h26_
        refine (does_pick (b := (icmp .geq el1 0)) (u := (Bo true)) (v := v62) (ev rfl) (ev rfl) (ev rfl)).mono ?_; rintro _ _ ⟨rfl, rfl⟩; refine ⟨?_, Ext.refl _⟩; rw [hβ1]; skip
        cases hbb : (icmp .geq el1 0)
        all_goals first | (show _ = _; simp only [↓reduceIte, Bool.true_and, Bool.false_and, Bool.true_or, Bool.false_or, Bool.false_eq_true]; done) | (have e_ := h30_ hbb; subst e_; show _ = _; simp only [↓reduceIte, Bool.true_and, Bool.false_and, Bool.true_or, Bool.false_or, Bool.false_eq_true]; done) | rfl | (have e_ := h30_ hbb; subst e_; rfl) | (simp [hbb] at h30_ ⊢; first | done | rfl | (subst h30_; rfl) | simp_all) | (simp [hbb] at h30_ ⊢; done)
      refine RW_fin ?_; intro w64 E65 hP66
      obtain ⟨⟨⟨⟨⟨⟨⟨⟨⟨⟨⟨-, -⟩, -⟩, -⟩, -⟩, -⟩, -⟩, -⟩, -⟩, -⟩, -⟩, q67⟩ := hP66
      have X68 := Ext.gr X44 E65
      have q67 : v63 = (Bo β1) := q67
      obtain rfl := q67
      show wpList _ _ _ _ (fr [_, _, _, _, _, _, _, _, _, _, _, _, _, _, _, _, _, _, _, _, _, _, _, _, _, _, _, _, _, _, _, _, _, _, _, _, _, _, _, _, _, _, _, _, _, _, _, _, _, _, _, _, _, _, _, _, _, _, _, _, _, _, _, _, _, _, _, _, _, _, _, _, _, _, _, _, _]) _
      refine wpList_nil (hK52 _ _ ?_)
      refine wp_cond_split (t := β1) (ev rfl) (fun c69 => ?_) (fun c69 => ?_)
      · have c69' := c69
        (try simp only [hβ1] at c69')
        (try simp only [icmp, Bool.and_eq_true, Bool.or_eq_true, Bool.and_eq_false_iff, Bool.or_eq_false_iff, Bool.not_eq_true', Bool.not_eq_false', decide_eq_true_eq, decide_eq_false_iff_not, beq_iff_eq, bne_iff_ne, beq_eq_false_iff_ne, bne_eq_false_iff_eq] at c69')
        have hsk : 0 ≤ iAt (numTo n_ pr_counts pr_beside k).1 k ∨ pr_counts (k : Int) = false := by rw [show iAt (numTo n_ pr_counts pr_beside k).1 k = el1 by simp [iAt, hel1]]; exact c69'
        refine wp_exit ?_
        refine hK49 _ _ ?_
        refine wp_region_lit ?_
        refine q_is rfl rfl (does_iarith (p := (k : Int)) (q := 1) (r := (k : Int) + 1) (ev rfl) (ev rfl) (.inl ⟨rfl, (in_i64 (by omega) (by omega)).symm⟩)) (by dsimp only [List.set]; try rfl) ?_
        refine q_is rfl rfl (does_move (u := (Iv ((k : Int) + 1))) (ev rfl)) (by dsimp only [List.set]; try rfl) ?_
        refine wpList_nil ?_
        have hR70 := RowG.cast (ys := ((fun (k : Nat) => (numTo n_ pr_counts pr_beside k).1) (k + 1))) (RowG.ext hR45 RI.flat E65) (by (try dsimp only); first | exact (congrArg Prod.fst (numTo_skip hsk)).symm | (rw [numTo_new hn1 hnw.2]; exact Fld.finish G (by omega) hnw.2 hfr (hs0 ▸ hfd)))
        refine ⟨k + 1, ⟨fun t => (([(Iv (n_ : Int)), (.func (.func f_counts) s_counts c_counts), (.func (.func f_beside) s_beside c_beside), Ud, Ud, Ud, (.slice none 0 0), (Iv 0), (.slice (some ⟨gr31, 0, none⟩) ((List.replicate n_ (iAt ([-1]) 0)).length) q19), (Iv ((numTo n_ pr_counts pr_beside k).2)), (Iv (k : Int)), (u40 11), Ud, (u40 13), (.slice (some ⟨b3, 0, none⟩) 1 1), (Iv (n_ : Int)), (.slice (some ⟨gr31, 0, none⟩) ((List.replicate n_ (iAt ([-1]) 0)).length) q19), (Iv (n_ : Int)), (Iv ((k : Int) + 1)), (Bo (icmp .lss (k : Int) (n_ : Int))), (Iv (k : Int)), v53, v54, v55, v56, v57, v58, v59, v60, v61, v62, (Bo β1), (u40 32), (u40 33), (u40 34), (u40 35), (u40 36), (u40 37), (u40 38), (u40 39), (u40 40), (u40 41), (u40 42), (u40 43), (u40 44), (u40 45), (u40 46), (u40 47), (u40 48), (u40 49), (u40 50), (u40 51), (u40 52), (u40 53), (u40 54), (u40 55), (u40 56), (u40 57), (u40 58), (u40 59), (u40 60), (u40 61), (u40 62), (u40 63), (u40 64), (u40 65), (u40 66), (u40 67), (u40 68), (u40 69), (u40 70), (u40 71), (u40 72), (u40 73), (Iv ((k : Int) + 1)), Ud, Ud] : List Value)[t]?).getD undef, ?_, (KpL.ext E42 E65), hR70, ?_⟩, ?_⟩
        · first | (rw [numTo_skip hsk]; rfl) | (rw [numTo_new hn1 hnw.2]; rfl)
        · omega
        · omega
      have c69' := c69
      (try simp only [hβ1] at c69')
      (try simp only [icmp, Bool.and_eq_true, Bool.or_eq_true, Bool.and_eq_false_iff, Bool.or_eq_false_iff, Bool.not_eq_true', Bool.not_eq_false', decide_eq_true_eq, decide_eq_false_iff_not, beq_iff_eq, bne_iff_ne, beq_eq_false_iff_ne, bne_eq_false_iff_eq] at c69')
      have hnw : el1 < 0 ∧ pr_counts (k : Int) = true := ⟨by have h := c69'.1; omega, by have h := c69'.2; simpa using h⟩
      have hn1 : iAt (numTo n_ pr_counts pr_beside k).1 k < 0 := by rw [show iAt (numTo n_ pr_counts pr_beside k).1 k = el1 by simp [iAt, hel1]]; exact hnw.1
      have hfr : ∀ j : Nat, j < n_ → Conn pr_counts pr_beside (k : Int) j → iAt (numTo n_ pr_counts pr_beside k).1 j < 0 := fun j hj hc => numTo_free G (by omega) hn1 hnw.2 hj hc
      refine wp_skip (hK51 _ _ ?_)
      refine wp_seq_k fun K71 hK71 => ?_
      refine wp_region_lit ?_
      refine q_is rfl rfl (does_move (u := (.slice (some ⟨gr31, 0, none⟩) ((List.replicate n_ (iAt ([-1]) 0)).length) q19)) (ev rfl)) (by dsimp only [List.set]; try rfl) ?_
      refine q_is rfl rfl (does_move (u := (Iv (k : Int))) (ev rfl)) (by dsimp only [List.set]; try rfl) ?_
      refine q_is rfl rfl (does_move (u := (Iv ((numTo n_ pr_counts pr_beside k).2))) (ev rfl)) (by dsimp only [List.set]; try rfl) ?_
      refine q_is rfl rfl (does_indexOwn (b := gr31) (n := (List.replicate n_ (iAt ([-1]) 0)).length) (i := (k : Int)) Try.underlying27 Try.sizeOf2 (ev rfl) (ev rfl) (by omega) (by omega)) (by dsimp only [List.set]; try rfl) ?_
      refine seqn rfl rfl (does_storeRowG (R := RI) (k := 1) (xs := ((numTo n_ pr_counts pr_beside k).1)) (i := k) (u := (Iv ((numTo n_ pr_counts pr_beside k).2))) (e := ((numTo n_ pr_counts pr_beside k).2)) (ev rfl) (ev rfl) Try.sizeOf2 rfl rfl RI.flat (RowG.ext hR45 RI.flat E65) rfl (by first | assumption | omega | (simp only [numTo_len, List.length_replicate, List.length_set, List.length_set, List.length_replicate]; omega) | (simp only [numTo_len, List.length_replicate, List.length_set, List.length_set, List.length_replicate]; done)) rfl) ?_; rintro _ w74 ⟨rfl, W72, hR73⟩
      have X75 := Below.wr X68 W72 g38
      refine wpList_nil (hK71 _ _ ?_)
      refine wp_seq_k fun K76 hK76 => ?_
      refine wp_seq_k fun K77 hK77 => ?_
      refine wp_region_lit ?_
      refine q_is rfl rfl (does_move (u := (Iv (k : Int))) (ev rfl)) (by dsimp only [List.set]; try rfl) ?_
      refine seqd rfl rfl (does_buildSlice (e := 2) (parts' := [(0, (Iv (k : Int)))]) (cells := [(Iv (k : Int))]) (evp rfl) (fun _ => by kernel_rfl)) ?_; rintro _ w82 ⟨b78, rfl, hb79, hB80, E81⟩
      have n83 : b3 < b78 := Nat.lt_of_lt_of_le (Blk.lt ((((hB5.ext E10).kl E42 (ninS n37 nin0)).ext E65).wr W72 n37)) hb79
      have n84 : gr31 < b78 := Nat.lt_of_lt_of_le (RowG.lt hR73) hb79
      have g85 : w.heap.size ≤ b78 := Nat.le_trans (Below.size X75) hb79
      have X86 := Ext.gr X75 E81
      show wpList _ _ _ _ (fr [_, _, _, _, _, _, _, _, _, _, _, _, _, _, _, _, _, _, _, _, _, _, _, _, _, _, _, _, _, _, _, _, _, _, _, _, _, _, _, _, _, _, _, _, _, _, _, _, _, _, _, _, _, _, _, _, _, _, _, _, _, _, _, _, _, _, _, _, _, _, _, _, _, _, _, _, _]) _
      refine q_is rfl rfl (does_assign (u := (.slice (some ⟨b78, 0, none⟩) 1 1)) (ev rfl)) (by dsimp only [List.set]; try rfl) ?_
      refine wpList_nil (hK77 _ _ ?_)
      refine wp_block ?_
      have n88 : b3 < w82.heap.size := Blk.lt (((((hB5.ext E10).kl E42 (ninS n37 nin0)).ext E65).wr W72 n37).ext E81)
      have n89 : gr31 < w82.heap.size := RowG.lt (RowG.ext hR73 RI.flat E81)
      have n90 : b78 < w82.heap.size := Blk.lt hB80
      have hO91 : OwnQ RI 1 2 b78 w82.heap.size w82 (.slice (some ⟨b78, 0, none⟩) 1 1) [(k : Int)] := OwnQ.lit1 hB80 rfl
      have hg92 : b78 < w82.heap.size := Blk.lt hB80
      have hH93 : Hang w74.heap.size w82 (fun u => Sl RI 1 u (.slice (some ⟨b78, 0, none⟩) 1 1) ([(k : Int)])) := OwnQ.hang hO91 RI.flat (by decide) hb79 (Below.size E81)
      obtain ⟨gg94, hg95, hg96, hO97⟩ := OwnQ.start' hO91 hO91
      have hN98 : w74.heap.size ≤ gg94 := by rcases hg95 with h | h; exact h ▸ hb79; exact Nat.le_trans (Below.size E81) h
      have g99 : w.heap.size ≤ gg94 := Nat.le_trans (Nat.le_trans (Nat.le_trans (Nat.le_trans (Nat.le_trans (Below.size E6) (Below.size E10)) (KpL.size E42)) (Below.size E65)) (Nat.le_of_eq (Eq.symm (Wr.size W72)))) hN98
      have hg100 : gg94 < w82.heap.size := by rcases hg96 with h | h; exact h ▸ Nat.lt_of_lt_of_le hg92 (Nat.le_refl _); exact h
      refine loop_ghost (σ := List Int × List Int) (fun s a w' => ∃ u87 : Nat → Value, ∃ y11 : Value, a = fr [(Iv (n_ : Int)), (.func (.func f_counts) s_counts c_counts), (.func (.func f_beside) s_beside c_beside), Ud, Ud, Ud, (.slice none 0 0), (Iv 0), (.slice (some ⟨gr31, 0, none⟩) ((List.replicate n_ (iAt ([-1]) 0)).length) q19), (Iv ((numTo n_ pr_counts pr_beside k).2)), (Iv (k : Int)), y11, Ud, (u87 13), (.slice (some ⟨b3, 0, none⟩) 1 1), (Iv (n_ : Int)), (.slice (some ⟨gr31, 0, none⟩) ((List.replicate n_ (iAt ([-1]) 0)).length) q19), (Iv (n_ : Int)), (Iv (k : Int)), (Bo (icmp .lss (k : Int) (n_ : Int))), (Iv (k : Int)), v53, v54, v55, v56, v57, v58, v59, v60, v61, v62, (Bo β1), (.slice (some ⟨gr31, 0, none⟩) ((List.replicate n_ (iAt ([-1]) 0)).length) q19), (Iv (k : Int)), (Iv ((numTo n_ pr_counts pr_beside k).2)), (Pt gr31 (k * 1)), (Iv (k : Int)), (.slice (some ⟨b78, 0, none⟩) 1 1), (u87 38), (u87 39), (u87 40), (u87 41), (u87 42), (u87 43), (u87 44), (u87 45), (u87 46), (u87 47), (u87 48), (u87 49), (u87 50), (u87 51), (u87 52), (u87 53), (u87 54), (u87 55), (u87 56), (u87 57), (u87 58), (u87 59), (u87 60), (u87 61), (u87 62), (u87 63), (u87 64), (u87 65), (u87 66), (u87 67), (u87 68), (u87 69), (u87 70), (u87 71), (u40 72), (u40 73), (u40 74), Ud, Ud] ∧ KpL [gr31, gg94] w82 w' ∧ RowG RI 1 w' gr31 s.1 ∧ OwnQ RI 1 2 gg94 w82.heap.size w' y11 s.2 ∧ (Fld n_ pr_counts pr_beside (numTo n_ pr_counts pr_beside k).1 (k : Int) (numTo n_ pr_counts pr_beside k).2 s.1 s.2)) (fun s => neg s.1 + s.2.length) ((numTo n_ pr_counts pr_beside k).1.set k (numTo n_ pr_counts pr_beside k).2, [(k : Int)]) ?_ ?_
      · refine ⟨fun t => (([(Iv (n_ : Int)), (.func (.func f_counts) s_counts c_counts), (.func (.func f_beside) s_beside c_beside), Ud, Ud, Ud, (.slice none 0 0), (Iv 0), (.slice (some ⟨gr31, 0, none⟩) ((List.replicate n_ (iAt ([-1]) 0)).length) q19), (Iv ((numTo n_ pr_counts pr_beside k).2)), (Iv (k : Int)), (.slice (some ⟨b78, 0, none⟩) 1 1), Ud, (u40 13), (.slice (some ⟨b3, 0, none⟩) 1 1), (Iv (n_ : Int)), (.slice (some ⟨gr31, 0, none⟩) ((List.replicate n_ (iAt ([-1]) 0)).length) q19), (Iv (n_ : Int)), (Iv (k : Int)), (Bo (icmp .lss (k : Int) (n_ : Int))), (Iv (k : Int)), v53, v54, v55, v56, v57, v58, v59, v60, v61, v62, (Bo β1), (.slice (some ⟨gr31, 0, none⟩) ((List.replicate n_ (iAt ([-1]) 0)).length) q19), (Iv (k : Int)), (Iv ((numTo n_ pr_counts pr_beside k).2)), (Pt gr31 (k * 1)), (Iv (k : Int)), (.slice (some ⟨b78, 0, none⟩) 1 1), (u40 38), (u40 39), (u40 40), (u40 41), (u40 42), (u40 43), (u40 44), (u40 45), (u40 46), (u40 47), (u40 48), (u40 49), (u40 50), (u40 51), (u40 52), (u40 53), (u40 54), (u40 55), (u40 56), (u40 57), (u40 58), (u40 59), (u40 60), (u40 61), (u40 62), (u40 63), (u40 64), (u40 65), (u40 66), (u40 67), (u40 68), (u40 69), (u40 70), (u40 71), (u40 72), (u40 73), (u40 74), Ud, Ud] : List Value)[t]?).getD undef, (.slice (some ⟨b78, 0, none⟩) 1 1), rfl, KpL.refl _ _, (RowG.cast (RowG.ext hR73 RI.flat E81) (by (try dsimp only); try rfl)), (OwnQ.cast hO97 (by try rfl)), ?_⟩
        exact Fld.start (by omega) hkl hel1 hnw.1 hkm.1 hfr
      · rintro s a w101 ⟨u87, y11, rfl, E102, hRg0, hO104, hfd⟩
        have X105 := Below.kl X86 E102 (allS g38 (allS g99 all0)) (Nat.le_refl _)
        have hR106 := hRg0; clear hRg0
        obtain ⟨p107, q108, rfl⟩ := OwnQ.shape hO104
        have hH109 : Hang w74.heap.size w101 (fun u => Sl RI 1 u (.slice p107 s.2.length q108) s.2) := OwnQ.hang hO104 RI.flat (by decide) hN98 (Below.size E81)
        have hsl := hfd.len
        have hsz := hfd.sz
        refine wp_seq_k fun K110 hK110 => ?_
        refine wp_seq_k fun K111 hK111 => ?_
        refine wp_region_lit ?_
        refine q_is rfl rfl (does_move (u := (.slice p107 s.2.length q108)) (ev rfl)) (by dsimp only [List.set]; try rfl) ?_
        refine q_is rfl rfl (does_len_slice Try.underlying27 (ev rfl)) (by dsimp only [List.set]; try rfl) ?_
        refine q_is rfl rfl (does_icmp (p := (s.2.length : Int)) (q := 0) (.inr (.inr (.inr (.inr (.inl rfl))))) (ev rfl) (ev rfl)) (by dsimp only [List.set]; try rfl) ?_
        refine wpList_nil (hK111 _ _ ?_)
        refine wp_cond_split (t := icmp .gtr (s.2.length : Int) 0) (ev rfl) (fun c112 => ?_) (fun c112 => ?_)
        · have c112' := c112
          (try simp only [hβ1] at c112')
          (try simp only [icmp, Bool.and_eq_true, Bool.or_eq_true, Bool.and_eq_false_iff, Bool.or_eq_false_iff, Bool.not_eq_true', Bool.not_eq_false', decide_eq_true_eq, decide_eq_false_iff_not, beq_iff_eq, bne_iff_ne, beq_eq_false_iff_ne, bne_eq_false_iff_eq] at c112')
          obtain ⟨x0, r0, hs2⟩ : ∃ x r, s.2 = x :: r := List.exists_cons_of_length_pos (by omega)
          have hx0 := hfd.tdc x0 (by rw [hs2]; simp)
          have hxr := hx0.rng G (by omega) hnw.2
          refine wp_skip (hK110 _ _ ?_)
          refine wp_seq_k fun K113 hK113 => ?_
          refine wp_block ?_
          refine wp_seq_k fun K114 hK114 => ?_
          refine wp_region_lit ?_
          refine q_is rfl rfl (does_move (u := (.func (.func f_beside) s_beside c_beside)) (ev rfl)) (by dsimp only [List.set]; try rfl) ?_
          refine q_is rfl rfl (does_move (u := (.slice p107 s.2.length q108)) (ev rfl)) (by dsimp only [List.set]; try rfl) ?_
          obtain ⟨el2, hel2⟩ : ∃ e, s.2[0]? = some e := ⟨_, List.getElem?_eq_getElem (by omega)⟩
          refine seqd rfl rfl (does_indexSl (R := RI) (i := 0) (xs := s.2) (e := el2) Try.underlying27 Try.sizeOf2 (ev rfl) (ev rfl) hH109.get (by omega) hel2) ?_; rintro _ w101 ⟨b115, o116, _, rfl, hc118, rfl, rfl⟩
          show wpList _ _ _ _ (fr [_, _, _, _, _, _, _, _, _, _, _, _, _, _, _, _, _, _, _, _, _, _, _, _, _, _, _, _, _, _, _, _, _, _, _, _, _, _, _, _, _, _, _, _, _, _, _, _, _, _, _, _, _, _, _, _, _, _, _, _, _, _, _, _, _, _, _, _, _, _, _, _, _, _, _, _, _]) _
          refine q_is rfl rfl (does_load (u := (Iv el2)) (ev rfl) Try.isAgg2 (Cells.at hc118 0 rfl)) (by dsimp only [List.set]; try rfl) ?_
          have hel2x : el2 = x0 := by rw [hs2] at hel2; simpa using hel2.symm
          subst hel2x
          have hbl := hlb el2 (by omega)
          refine seqd rfl rfl (does_callf (args := #[(Iv el2)]) (ev rfl) hcal_beside (evs rfl) (hg_beside el2 _ (by exact hD2 _ (by omega) hxr.2) X105)) ?_; rintro _ w119 ⟨E120, _, rfl, h121⟩
          have X125 := Ext.gr X105 E120
          have hs124 := h121; obtain ⟨p122, q123, rfl⟩ := Sl.shape hs124
          show wpList _ _ _ _ (fr [_, _, _, _, _, _, _, _, _, _, _, _, _, _, _, _, _, _, _, _, _, _, _, _, _, _, _, _, _, _, _, _, _, _, _, _, _, _, _, _, _, _, _, _, _, _, _, _, _, _, _, _, _, _, _, _, _, _, _, _, _, _, _, _, _, _, _, _, _, _, _, _, _, _, _, _, _]) _
          refine q_is rfl rfl (does_len_slice Try.underlying27 (ev rfl)) (by dsimp only [List.set]; try rfl) ?_
          refine q_is rfl rfl (does_move (u := (Iv 0)) (ev rfl)) (by dsimp only [List.set]; try rfl) ?_
          refine wpList_nil (hK114 _ _ ?_)
          refine wp_block ?_
          have n131 : b3 < w119.heap.size := Blk.lt (((((((hB5.ext E10).kl E42 (ninS n37 nin0)).ext E65).wr W72 n37).ext E81).kl E102 (ninS n37 (ninS (by omega) nin0))).ext E120)
          have n132 : gr31 < w119.heap.size := RowG.lt (RowG.ext hR106 RI.flat E120)
          have n133 : b115 < w119.heap.size := cell_lt (Cells.at (hc118.ext E120) 0 rfl)
          obtain ⟨gg127, hg128, hg129, hO130⟩ := OwnQ.start' hO104 (OwnQ.same hO104 RI.flat ((Same.refl _ _).ext E120) hN98 (Below.size E81))
          have hN134 : w74.heap.size ≤ gg127 := by rcases hg128 with h | h; exact h ▸ hN98; exact Nat.le_trans (Below.size E81) h
          have g135 : w.heap.size ≤ gg127 := Nat.le_trans (Nat.le_trans (Nat.le_trans (Nat.le_trans (Nat.le_trans (Below.size E6) (Below.size E10)) (KpL.size E42)) (Below.size E65)) (Nat.le_of_eq (Eq.symm (Wr.size W72)))) hN134
          have hg136 : gg127 < w101.heap.size := by rcases hg129 with h | h; exact h ▸ Nat.lt_of_lt_of_le hg100 (KpL.size E102); exact h
          refine loop_ghost (σ := List Int × List Int × Nat) (fun q a w' => ∃ u126 : Nat → Value, ∃ y11 : Value, a = fr [(Iv (n_ : Int)), (.func (.func f_counts) s_counts c_counts), (.func (.func f_beside) s_beside c_beside), Ud, Ud, Ud, (.slice none 0 0), (Iv 0), (.slice (some ⟨gr31, 0, none⟩) ((List.replicate n_ (iAt ([-1]) 0)).length) q19), (Iv ((numTo n_ pr_counts pr_beside k).2)), (Iv (k : Int)), y11, Ud, (u126 13), (.slice (some ⟨b3, 0, none⟩) 1 1), (Iv (n_ : Int)), (.slice (some ⟨gr31, 0, none⟩) ((List.replicate n_ (iAt ([-1]) 0)).length) q19), (Iv (n_ : Int)), (Iv (k : Int)), (Bo (icmp .lss (k : Int) (n_ : Int))), (Iv (k : Int)), v53, v54, v55, v56, v57, v58, v59, v60, v61, v62, (Bo β1), (.slice (some ⟨gr31, 0, none⟩) ((List.replicate n_ (iAt ([-1]) 0)).length) q19), (Iv (k : Int)), (Iv ((numTo n_ pr_counts pr_beside k).2)), (Pt gr31 (k * 1)), (Iv (k : Int)), (.slice (some ⟨b78, 0, none⟩) 1 1), (.slice p107 s.2.length q108), (Iv (s.2.length : Int)), (Bo (icmp .gtr (s.2.length : Int) 0)), (u87 41), (u87 42), (.func (.func f_beside) s_beside c_beside), (.slice p107 s.2.length q108), (Pt b115 o116), (Iv el2), (.slice p122 ((pr_beside el2).length) q123), (Iv (((pr_beside el2).length) : Int)), (Iv (q.2.2 : Int)), (u126 50), (u126 51), (u126 52), (u126 53), (u126 54), (u126 55), (u126 56), (u126 57), (u126 58), (u126 59), (u126 60), (u126 61), (u126 62), (u126 63), (u126 64), (u126 65), (u126 66), (u126 67), (u126 68), (u126 69), (u126 70), (u126 71), (u40 72), (u40 73), (u40 74), Ud, Ud] ∧ KpL [gr31, gg127] w119 w' ∧ RowG RI 1 w' gr31 q.1 ∧ OwnQ RI 1 2 gg127 w119.heap.size w' y11 q.2.1 ∧ (∃ r, q.2.1 = el2 :: r ∧ Fld n_ pr_counts pr_beside (numTo n_ pr_counts pr_beside k).1 (k : Int) (numTo n_ pr_counts pr_beside k).2 q.1 (el2 :: r) ∧ Pre pr_counts (pr_beside el2) q.1 q.2.2 ∧ neg q.1 + q.2.1.length = neg s.1 + s.2.length ∧ q.2.2 ≤ (pr_beside el2).length)) (fun q => (pr_beside el2).length - q.2.2) (s.1, s.2, 0) ?_ ?_
          · refine ⟨fun t => (([(Iv (n_ : Int)), (.func (.func f_counts) s_counts c_counts), (.func (.func f_beside) s_beside c_beside), Ud, Ud, Ud, (.slice none 0 0), (Iv 0), (.slice (some ⟨gr31, 0, none⟩) ((List.replicate n_ (iAt ([-1]) 0)).length) q19), (Iv ((numTo n_ pr_counts pr_beside k).2)), (Iv (k : Int)), (.slice p107 s.2.length q108), Ud, (u87 13), (.slice (some ⟨b3, 0, none⟩) 1 1), (Iv (n_ : Int)), (.slice (some ⟨gr31, 0, none⟩) ((List.replicate n_ (iAt ([-1]) 0)).length) q19), (Iv (n_ : Int)), (Iv (k : Int)), (Bo (icmp .lss (k : Int) (n_ : Int))), (Iv (k : Int)), v53, v54, v55, v56, v57, v58, v59, v60, v61, v62, (Bo β1), (.slice (some ⟨gr31, 0, none⟩) ((List.replicate n_ (iAt ([-1]) 0)).length) q19), (Iv (k : Int)), (Iv ((numTo n_ pr_counts pr_beside k).2)), (Pt gr31 (k * 1)), (Iv (k : Int)), (.slice (some ⟨b78, 0, none⟩) 1 1), (.slice p107 s.2.length q108), (Iv (s.2.length : Int)), (Bo (icmp .gtr (s.2.length : Int) 0)), (u87 41), (u87 42), (.func (.func f_beside) s_beside c_beside), (.slice p107 s.2.length q108), (Pt b115 o116), (Iv el2), (.slice p122 ((pr_beside el2).length) q123), (Iv (((pr_beside el2).length) : Int)), (Iv 0), (u87 50), (u87 51), (u87 52), (u87 53), (u87 54), (u87 55), (u87 56), (u87 57), (u87 58), (u87 59), (u87 60), (u87 61), (u87 62), (u87 63), (u87 64), (u87 65), (u87 66), (u87 67), (u87 68), (u87 69), (u87 70), (u87 71), (u40 72), (u40 73), (u40 74), Ud, Ud] : List Value)[t]?).getD undef, (.slice p107 s.2.length q108), rfl, KpL.refl _ _, (RowG.cast (RowG.ext hR106 RI.flat E120) (by (try dsimp only); try rfl)), (OwnQ.cast hO130 (by try rfl)), ?_⟩
            exact ⟨r0, hs2, hs2 ▸ hfd, Pre.start, rfl, Nat.zero_le _⟩
          · rintro q a w137 ⟨u126, y11, rfl, E138, hRg0, hO140, ⟨r1, hq1, hfd1, hpre, hng, hq2⟩⟩
            have X141 := Below.kl X125 E138 (allS g38 (allS g135 all0)) (Nat.le_refl _)
            have hR142 := hRg0; clear hRg0
            obtain ⟨p143, q144, rfl⟩ := OwnQ.shape hO140
            have hH145 : Hang w74.heap.size w137 (fun u => Sl RI 1 u (.slice p143 q.2.1.length q144) q.2.1) := OwnQ.hang hO140 RI.flat (by decide) hN134 (Nat.le_trans (Nat.le_trans (Below.size E81) (KpL.size E102)) (Below.size E120))
            have hql := hfd1.len
            have hqz := hfd1.sz
            refine wp_seq_k fun K146 hK146 => ?_
            refine wp_region_lit ?_
            refine q_is rfl rfl (does_icmp (p := (q.2.2 : Int)) (q := (((pr_beside el2).length) : Int)) (.inr (.inr (.inl rfl))) (ev rfl) (ev rfl)) (by dsimp only [List.set]; try rfl) ?_
            refine wpList_nil (hK146 _ _ ?_)
            refine wp_seq_k fun K147 hK147 => ?_
            refine wp_cond_split (t := icmp .lss (q.2.2 : Int) (((pr_beside el2).length) : Int)) (ev rfl) (fun c148 => ?_) (fun c148 => ?_)
            · have c148' := c148
              (try simp only [hβ1] at c148')
              (try simp only [icmp, Bool.and_eq_true, Bool.or_eq_true, Bool.and_eq_false_iff, Bool.or_eq_false_iff, Bool.not_eq_true', Bool.not_eq_false', decide_eq_true_eq, decide_eq_false_iff_not, beq_iff_eq, bne_iff_ne, beq_eq_false_iff_ne, bne_eq_false_iff_eq] at c148')
              refine wp_skip (hK147 _ _ ?_)
              refine wp_seq_k fun K149 hK149 => ?_
              refine wp_block ?_
              refine wp_seq_k fun K150 hK150 => ?_
              refine wp_region_lit ?_
              obtain ⟨el3, hel3⟩ : ∃ e, (pr_beside el2)[q.2.2]? = some e := ⟨_, List.getElem?_eq_getElem (by omega)⟩
              refine seqd rfl rfl (does_indexSl0 (R := RI) (i := (q.2.2 : Int)) (xs := (pr_beside el2)) (e := el3) Try.underlying27 Try.sizeOf2 (ev rfl) (ev rfl) hs124 (by omega) hel3) ?_; rintro _ w137 ⟨b151, o152, _, rfl, hc154, rfl, rfl⟩
              show wpList _ _ _ _ (fr [_, _, _, _, _, _, _, _, _, _, _, _, _, _, _, _, _, _, _, _, _, _, _, _, _, _, _, _, _, _, _, _, _, _, _, _, _, _, _, _, _, _, _, _, _, _, _, _, _, _, _, _, _, _, _, _, _, _, _, _, _, _, _, _, _, _, _, _, _, _, _, _, _, _, _, _, _]) _
              refine q_is rfl rfl (does_load (u := (Iv el3)) (ev rfl) Try.isAgg2 (Cells.at (hc154.ext X141) 0 rfl)) (by dsimp only [List.set]; try rfl) ?_
              refine q_is rfl rfl (does_assign (u := (Iv el3)) (ev rfl)) (by dsimp only [List.set]; try rfl) ?_
              refine wpList_nil (hK150 _ _ ?_)
              refine wp_seq_k fun K155 hK155 => ?_
              have hrg3 := G.rng el2 hxr.1 hxr.2 el3 (List.mem_of_getElem? hel3)
              obtain ⟨el4, hel4⟩ : ∃ e, q.1[el3.toNat]? = some e := ⟨_, List.getElem?_eq_getElem (by first | assumption | omega | (simp only [numTo_len, List.length_replicate, List.length_set, List.length_set, List.length_replicate]; omega) | (simp only [numTo_len, List.length_replicate, List.length_set, List.length_set, List.length_replicate]; done))⟩
              obtain ⟨β2, hβ2⟩ : ∃ b : Bool, b = ((icmp .lss el4 0) && (pr_counts el3)) := ⟨_, rfl⟩
              refine region_text (
                [Fact.pure [] (fun v => v = (.slice (some ⟨gr31, 0, none⟩) ((List.replicate n_ (iAt ([-1]) 0)).length) q19)),
    Fact.pure [] (fun v => v = (Iv el3)),
    Fact.pure [53, 54] (fun v => v = (Pt gr31 (el3.toNat * 1))),
    Fact.pure [55] (fun v => v = (Iv el4)),
    Fact.pure [56] (fun v => v = (Bo (icmp .lss el4 0))),
    Fact.pure [57] (fun v => v = (Bo (icmp .lss el4 0))),
    Fact.pure [58] (fun v => (icmp .lss el4 0) = true → v = (.func (.func f_counts) s_counts c_counts)),
    Fact.pure [58] (fun v => (icmp .lss el4 0) = true → v = (Iv el3)),
    Fact.pure [60, 59, 58] (fun v => (icmp .lss el4 0) = true → v = (Bo (pr_counts el3))),
    Fact.pure [58, 61] (fun v => v = (Bo β2))]) (by simp [Fact.pure, Fact.mem]) ?_
              refine RW_d _ rfl (fun v => by dsimp only [List.set]; try rfl) (fun u hu hF => ?_) (fun v156 => ?_)
              · clear hF
                refine doesG_un rfl ?_
                refine (does_move (u := (.slice (some ⟨gr31, 0, none⟩) ((List.replicate n_ (iAt ([-1]) 0)).length) q19)) (ev rfl)).mono ?_; rintro _ _ ⟨rfl, rfl⟩
                exact ⟨rfl, Ext.refl _⟩
              refine RW_d _ rfl (fun v => by dsimp only [List.set]; try rfl) (fun u hu hF => ?_) (fun v157 => ?_)
              · clear hF
                refine doesG_un rfl ?_
                refine (does_move (u := (Iv el3)) (ev rfl)).mono ?_; rintro _ _ ⟨rfl, rfl⟩
                exact ⟨rfl, Ext.refl _⟩
              refine RW_d _ rfl (fun v => by dsimp only [List.set]; try rfl) (fun u hu hF => ?_) (fun v158 => ?_)
              · have h53_ : v156 = (.slice (some ⟨gr31, 0, none⟩) ((List.replicate n_ (iAt ([-1]) 0)).length) q19) := hF.1
                have h54_ : v157 = (Iv el3) := hF.2.1
                clear hF
                refine doesG_un rfl ?_
                obtain rfl := h53_
                obtain rfl := h54_
                refine (does_indexOwn (b := gr31) (n := (List.replicate n_ (iAt ([-1]) 0)).length) (i := el3) Try.underlying27 Try.sizeOf2 (ev rfl) (ev rfl) (by omega) (by omega)).mono ?_; rintro _ _ ⟨rfl, rfl⟩
                exact ⟨rfl, Ext.refl _⟩
              refine RW_d _ rfl (fun v => by dsimp only [List.set]; try rfl) (fun u hu hF => ?_) (fun v159 => ?_)
              · have h55_ : v158 = (Pt gr31 (el3.toNat * 1)) := hF.1
                clear hF
                refine doesG_un rfl ?_
                obtain rfl := h55_
                refine (does_loadRowI (xs := q.1) (i := el3.toNat) (e := el4) (ev rfl) Try.isAgg2 (RowG.ext hR142 RI.flat hu) rfl hel4).mono ?_; rintro _ _ ⟨rfl, rfl⟩
                exact ⟨rfl, Ext.refl _⟩
              refine RW_d _ rfl (fun v => by dsimp only [List.set]; try rfl) (fun u hu hF => ?_) (fun v160 => ?_)
              · have h56_ : v159 = (Iv el4) := hF.1
                clear hF
                refine doesG_un rfl ?_
                obtain rfl := h56_
                refine (does_icmp (p := el4) (q := 0) (.inr (.inr (.inl rfl))) (ev rfl) (ev rfl)).mono ?_; rintro _ _ ⟨rfl, rfl⟩
                exact ⟨rfl, Ext.refl _⟩
              refine RW_d _ rfl (fun v => by dsimp only [List.set]; try rfl) (fun u hu hF => ?_) (fun v161 => ?_)
              · have h57_ : v160 = (Bo (icmp .lss el4 0)) := hF.1
                clear hF
                refine doesG_un rfl ?_
                obtain rfl := h57_
                refine (does_move (u := (Bo (icmp .lss el4 0))) (ev rfl)).mono ?_; rintro _ _ ⟨rfl, rfl⟩
                exact ⟨rfl, Ext.refl _⟩
              refine RW_d _ rfl (fun v => by dsimp only [List.set]; try rfl) (fun u hu hF => ?_) (fun v162 => ?_)
              · have h58_ : v161 = (Bo (icmp .lss el4 0)) := hF.1
                clear hF
                obtain rfl := h58_
                refine doesG_g (b := (icmp .lss el4 0)) rfl (yld rfl rfl) (fun hg1 => ?_) (fun hc => ⟨fun hg1 => absurd hg1 hc, Ext.refl _⟩)
                refine (does_move (u := (.func (.func f_counts) s_counts c_counts)) (ev rfl)).mono ?_; rintro _ _ ⟨rfl, rfl⟩
                exact ⟨fun _ => rfl, Ext.refl _⟩
              refine RW_d _ rfl (fun v => by dsimp only [List.set]; try rfl) (fun u hu hF => ?_) (fun v163 => ?_)
              · have h58_ : v161 = (Bo (icmp .lss el4 0)) := hF.1
                clear hF
                obtain rfl := h58_
                refine doesG_g (b := (icmp .lss el4 0)) rfl (yld rfl rfl) (fun hg1 => ?_) (fun hc => ⟨fun hg1 => absurd hg1 hc, Ext.refl _⟩)
                refine (does_move (u := (Iv el3)) (ev rfl)).mono ?_; rintro _ _ ⟨rfl, rfl⟩
                exact ⟨fun _ => rfl, Ext.refl _⟩
              refine RW_d _ rfl (fun v => by dsimp only [List.set]; try rfl) (fun u hu hF => ?_) (fun v164 => ?_)
              · have h60_ : (icmp .lss el4 0) = true → v163 = (Iv el3) := hF.1
                have h59_ : (icmp .lss el4 0) = true → v162 = (.func (.func f_counts) s_counts c_counts) := hF.2.1
                have h58_ : v161 = (Bo (icmp .lss el4 0)) := hF.2.2.1
                clear hF
                obtain rfl := h58_
                refine doesG_g (b := (icmp .lss el4 0)) rfl (yld rfl rfl) (fun hg1 => ?_) (fun hc => ⟨fun hg1 => absurd hg1 hc, Ext.refl _⟩)
                obtain rfl := h60_ hg1
                obtain rfl := h59_ hg1
                refine (does_callf (args := #[(Iv el3)]) (ev rfl) hcal_counts (evs rfl) (hg_counts el3 _ (by exact hD1 _ (by omega)) (Ext.gr X141 hu))).mono ?_; rintro v u' ⟨hx, hv⟩
                exact ⟨fun _ => hv, hx⟩
              refine RW_d _ rfl (fun v => by dsimp only [List.set]; try rfl) (fun u hu hF => ?_) (fun v165 => ?_)
              · have h58_ : v161 = (Bo (icmp .lss el4 0)) := hF.1
                have h61_ : (icmp .lss el4 0) = true → v164 = (Bo (pr_counts el3)) := hF.2.1
                clear hF
                refine doesG_un rfl ?_
                skip
                obtain rfl := h58_
                refine (does_pick (b := (icmp .lss el4 0)) (u := v164) (v := (Bo false)) (ev rfl) (ev rfl) (ev rfl)).mono ?_; rintro _ _ ⟨rfl, rfl⟩; refine ⟨?_, Ext.refl _⟩; rw [hβ2]; skip
                cases hbb : (icmp .lss el4 0)
                all_goals first | (show _ = _; simp only [↓reduceIte, Bool.true_and, Bool.false_and, Bool.true_or, Bool.false_or, Bool.false_eq_true]; done) | (have e_ := h61_ hbb; subst e_; show _ = _; simp only [↓reduceIte, Bool.true_and, Bool.false_and, Bool.true_or, Bool.false_or, Bool.false_eq_true]; done) | rfl | (have e_ := h61_ hbb; subst e_; rfl) | (simp [hbb] at h61_ ⊢; first | done | rfl | (subst h61_; rfl) | simp_all) | (simp [hbb] at h61_ ⊢; done)
              refine RW_fin ?_; intro w166 E167 hP168
              obtain ⟨⟨⟨⟨⟨⟨⟨⟨⟨⟨-, -⟩, -⟩, -⟩, -⟩, -⟩, -⟩, -⟩, -⟩, -⟩, q169⟩ := hP168
              have X170 := Ext.gr X141 E167
              have q169 : v165 = (Bo β2) := q169
              obtain rfl := q169
              show wpList _ _ _ _ (fr [_, _, _, _, _, _, _, _, _, _, _, _, _, _, _, _, _, _, _, _, _, _, _, _, _, _, _, _, _, _, _, _, _, _, _, _, _, _, _, _, _, _, _, _, _, _, _, _, _, _, _, _, _, _, _, _, _, _, _, _, _, _, _, _, _, _, _, _, _, _, _, _, _, _, _, _, _]) _
              refine wpList_nil (hK155 _ _ ?_)
              refine wp_cond_split (t := β2) (ev rfl) (fun c171 => ?_) (fun c171 => ?_)
              · have c171' := c171
                (try simp only [hβ1, hβ2] at c171')
                (try simp only [icmp, Bool.and_eq_true, Bool.or_eq_true, Bool.and_eq_false_iff, Bool.or_eq_false_iff, Bool.not_eq_true', Bool.not_eq_false', decide_eq_true_eq, decide_eq_false_iff_not, beq_iff_eq, bne_iff_ne, beq_eq_false_iff_ne, bne_eq_false_iff_eq] at c171')
                have hput : el4 < 0 ∧ pr_counts el3 = true := c171'
                have hng2 := neg_set hel4 hput.1 hkm.1
                refine wp_seq_k fun K172 hK172 => ?_
                refine wp_region_lit ?_
                refine q_is rfl rfl (does_move (u := (.slice (some ⟨gr31, 0, none⟩) ((List.replicate n_ (iAt ([-1]) 0)).length) q19)) (ev rfl)) (by dsimp only [List.set]; try rfl) ?_
                refine q_is rfl rfl (does_move (u := (Iv el3)) (ev rfl)) (by dsimp only [List.set]; try rfl) ?_
                refine q_is rfl rfl (does_move (u := (Iv ((numTo n_ pr_counts pr_beside k).2))) (ev rfl)) (by dsimp only [List.set]; try rfl) ?_
                refine q_is rfl rfl (does_indexOwn (b := gr31) (n := (List.replicate n_ (iAt ([-1]) 0)).length) (i := el3) Try.underlying27 Try.sizeOf2 (ev rfl) (ev rfl) (by omega) (by omega)) (by dsimp only [List.set]; try rfl) ?_
                refine seqn rfl rfl (does_storeRowG (R := RI) (k := 1) (xs := q.1) (i := el3.toNat) (u := (Iv ((numTo n_ pr_counts pr_beside k).2))) (e := ((numTo n_ pr_counts pr_beside k).2)) (ev rfl) (ev rfl) Try.sizeOf2 rfl rfl RI.flat (RowG.ext hR142 RI.flat E167) rfl (by first | assumption | omega | (simp only [numTo_len, List.length_replicate, List.length_set, List.length_set, List.length_replicate]; omega) | (simp only [numTo_len, List.length_replicate, List.length_set, List.length_set, List.length_replicate]; done)) rfl) ?_; rintro _ w175 ⟨rfl, W173, hR174⟩
                have X176 := Below.wr X170 W173 g38
                refine wpList_nil (hK172 _ _ ?_)
                refine wp_region_lit ?_
                refine q_is rfl rfl (does_move (u := (.slice p143 q.2.1.length q144)) (ev rfl)) (by dsimp only [List.set]; try rfl) ?_
                refine q_is rfl rfl (does_move (u := (Iv el3)) (ev rfl)) (by dsimp only [List.set]; try rfl) ?_
                refine seqd rfl rfl (does_buildSlice (e := 2) (parts' := [(0, (Iv el3))]) (cells := [(Iv el3)]) (evp rfl) (fun _ => by kernel_rfl)) ?_; rintro _ w181 ⟨b177, rfl, hb178, hB179, E180⟩
                have n182 : b3 < b177 := Nat.lt_of_lt_of_le (Blk.lt ((((((((((hB5.ext E10).kl E42 (ninS n37 nin0)).ext E65).wr W72 n37).ext E81).kl E102 (ninS n37 (ninS (by omega) nin0))).ext E120).kl E138 (ninS n37 (ninS (by omega) nin0))).ext E167).wr W173 n37)) hb178
                have n183 : gr31 < b177 := Nat.lt_of_lt_of_le (RowG.lt hR174) hb178
                have g184 : w.heap.size ≤ b177 := Nat.le_trans (Below.size X176) hb178
                have X185 := Ext.gr X176 E180
                show wpList _ _ _ _ (fr [_, _, _, _, _, _, _, _, _, _, _, _, _, _, _, _, _, _, _, _, _, _, _, _, _, _, _, _, _, _, _, _, _, _, _, _, _, _, _, _, _, _, _, _, _, _, _, _, _, _, _, _, _, _, _, _, _, _, _, _, _, _, _, _, _, _, _, _, _, _, _, _, _, _, _, _, _]) _
                refine seqd rfl rfl (does_appendQ (R := RI) (k := 1) (g0 := gg127) (B := w119.heap.size) (xs := q.2.1) (x := el3) Try.underlying27 inf2 rfl (ev rfl) (ev rfl) (OwnQ.ext (OwnQ.kl (OwnQ.ext hO140 RI.flat E167) RI.flat (KpL.of_wr W173) (allS ⟨(by omega), .inl n132⟩ all0)) RI.flat E180) RI.flat hB179 rfl rfl (by first | omega | omega) (Nat.le_trans (Nat.le_trans (Nat.le_trans (KpL.size E138) (Below.size E167)) (Nat.le_of_eq (Eq.symm (Wr.size W173)))) (Below.size E180))) ?_; rintro y' w186 ⟨gg187, hg188, K189, hO190⟩
                have hN191 : w74.heap.size ≤ gg187 := by rcases hg188 with h | h; exact h ▸ hN134; exact Nat.le_trans (Nat.le_trans (Nat.le_trans (Below.size E81) (KpL.size E102)) (Below.size E120)) h
                have g192 : w.heap.size ≤ gg187 := Nat.le_trans (Nat.le_trans (Nat.le_trans (Nat.le_trans (Nat.le_trans (Below.size E6) (Below.size E10)) (KpL.size E42)) (Below.size E65)) (Nat.le_of_eq (Eq.symm (Wr.size W72)))) hN191
                have X193 := Below.kl X185 K189 (allS g192 all0) (Nat.le_refl _)
                obtain ⟨p194, q195, rfl⟩ := OwnQ.shape hO190
                have hH196 : Hang w74.heap.size w186 (fun u => Sl RI 1 u (.slice p194 ((q.2.1 ++ [el3]).length) q195) (q.2.1 ++ [el3])) := OwnQ.hang hO190 RI.flat (by decide) hN134 (Nat.le_trans (Nat.le_trans (Below.size E81) (KpL.size E102)) (Below.size E120))
                show wpList _ _ _ _ (fr [_, _, _, _, _, _, _, _, _, _, _, _, _, _, _, _, _, _, _, _, _, _, _, _, _, _, _, _, _, _, _, _, _, _, _, _, _, _, _, _, _, _, _, _, _, _, _, _, _, _, _, _, _, _, _, _, _, _, _, _, _, _, _, _, _, _, _, _, _, _, _, _, _, _, _, _, _]) _
                refine q_is rfl rfl (does_assign (u := (.slice p194 ((q.2.1 ++ [el3]).length) q195)) (ev rfl)) (by dsimp only [List.set]; try rfl) ?_
                refine wpList_nil (hK149 _ _ ?_)
                refine wp_region_lit ?_
                refine q_is rfl rfl (does_iarith (p := (q.2.2 : Int)) (q := 1) (r := (q.2.2 : Int) + 1) (ev rfl) (ev rfl) (.inl ⟨rfl, (in_i64 (by omega) (by omega)).symm⟩)) (by dsimp only [List.set]; try rfl) ?_
                refine q_is rfl rfl (does_move (u := (Iv ((q.2.2 : Int) + 1))) (ev rfl)) (by dsimp only [List.set]; try rfl) ?_
                refine wpList_nil ?_
                have hR197 := RowG.cast (ys := ((fun (q : List Int × List Int × Nat) => q.1) ((q.1.set el3.toNat ((numTo n_ pr_counts pr_beside k).2)), q.2.1 ++ [el3], q.2.2 + 1))) (RowG.kl (RowG.ext hR174 RI.flat E180) RI.flat K189 (ninS (by omega) nin0)) (by (try dsimp only); try rfl)
                have hO198 := OwnQ.cast (ys := ((fun (q : List Int × List Int × Nat) => q.2.1) ((q.1.set el3.toNat ((numTo n_ pr_counts pr_beside k).2)), q.2.1 ++ [el3], q.2.2 + 1))) hO190 (by (try dsimp only); try rfl)
                refine ⟨((q.1.set el3.toNat ((numTo n_ pr_counts pr_beside k).2)), q.2.1 ++ [el3], q.2.2 + 1), ⟨fun t => (([(Iv (n_ : Int)), (.func (.func f_counts) s_counts c_counts), (.func (.func f_beside) s_beside c_beside), Ud, Ud, Ud, (.slice none 0 0), (Iv 0), (.slice (some ⟨gr31, 0, none⟩) ((List.replicate n_ (iAt ([-1]) 0)).length) q19), (Iv ((numTo n_ pr_counts pr_beside k).2)), (Iv (k : Int)), (.slice p194 ((q.2.1 ++ [el3]).length) q195), Ud, (Iv el3), (.slice (some ⟨b3, 0, none⟩) 1 1), (Iv (n_ : Int)), (.slice (some ⟨gr31, 0, none⟩) ((List.replicate n_ (iAt ([-1]) 0)).length) q19), (Iv (n_ : Int)), (Iv (k : Int)), (Bo (icmp .lss (k : Int) (n_ : Int))), (Iv (k : Int)), v53, v54, v55, v56, v57, v58, v59, v60, v61, v62, (Bo β1), (.slice (some ⟨gr31, 0, none⟩) ((List.replicate n_ (iAt ([-1]) 0)).length) q19), (Iv (k : Int)), (Iv ((numTo n_ pr_counts pr_beside k).2)), (Pt gr31 (k * 1)), (Iv (k : Int)), (.slice (some ⟨b78, 0, none⟩) 1 1), (.slice p107 s.2.length q108), (Iv (s.2.length : Int)), (Bo (icmp .gtr (s.2.length : Int) 0)), (u87 41), (u87 42), (.func (.func f_beside) s_beside c_beside), (.slice p107 s.2.length q108), (Pt b115 o116), (Iv el2), (.slice p122 ((pr_beside el2).length) q123), (Iv (((pr_beside el2).length) : Int)), (Iv ((q.2.2 : Int) + 1)), (Bo (icmp .lss (q.2.2 : Int) (((pr_beside el2).length) : Int))), (Pt b151 o152), (Iv el3), v156, v157, v158, v159, v160, v161, v162, v163, v164, (Bo β2), (.slice (some ⟨gr31, 0, none⟩) ((List.replicate n_ (iAt ([-1]) 0)).length) q19), (Iv el3), (Iv ((numTo n_ pr_counts pr_beside k).2)), (Pt gr31 (el3.toNat * 1)), (.slice p143 q.2.1.length q144), (Iv el3), (.slice (some ⟨b177, 0, none⟩) 1 1), (.slice p194 ((q.2.1 ++ [el3]).length) q195), (Iv ((q.2.2 : Int) + 1)), (u40 72), (u40 73), (u40 74), Ud, Ud] : List Value)[t]?).getD undef, (.slice p194 ((q.2.1 ++ [el3]).length) q195), ?_, (KpL.more (KpL.ext (KpL.more (KpL.ext E138 E167) (KpL.of_wr W173) (allS (.inl (by simp)) all0)) E180) K189 (allS (hg188.imp (fun h => by simp [h]) id) all0)), hR197, hO198, ?_⟩, ?_⟩
                · first | rfl | (simp only [Int.natCast_add, Int.natCast_one]; rfl)
                · (try dsimp only); first | exact ⟨r1 ++ [el3], by simp [hq1], hfd1.put (List.mem_of_getElem? hel3) hput.2 hrg3 hel4 hput.1 hkm.1, hpre.put hel3 (by omega) hkm.1, by simp only [List.length_append, List.length_cons, List.length_nil]; omega, by (try dsimp only); omega⟩ | exact ⟨r1, hq1, hfd1, hpre.skip hel3 hnput, hng, by (try dsimp only); omega⟩
                · (try dsimp only); omega
              have c171' := c171
              (try simp only [hβ1, hβ2] at c171')
              (try simp only [icmp, Bool.and_eq_true, Bool.or_eq_true, Bool.and_eq_false_iff, Bool.or_eq_false_iff, Bool.not_eq_true', Bool.not_eq_false', decide_eq_true_eq, decide_eq_false_iff_not, beq_iff_eq, bne_iff_ne, beq_eq_false_iff_ne, bne_eq_false_iff_eq] at c171')
              have hnput : pr_counts el3 = true → 0 ≤ iAt q.1 el3.toNat := fun hc => by rw [show iAt q.1 el3.toNat = el4 by simp [iAt, hel4]]; rcases c171' with h | h; omega; rw [hc] at h; cases h
              refine wp_skip (hK149 _ _ ?_)
              refine wp_region_lit ?_
              refine q_is rfl rfl (does_iarith (p := (q.2.2 : Int)) (q := 1) (r := (q.2.2 : Int) + 1) (ev rfl) (ev rfl) (.inl ⟨rfl, (in_i64 (by omega) (by omega)).symm⟩)) (by dsimp only [List.set]; try rfl) ?_
              refine q_is rfl rfl (does_move (u := (Iv ((q.2.2 : Int) + 1))) (ev rfl)) (by dsimp only [List.set]; try rfl) ?_
              refine wpList_nil ?_
              have hR199 := RowG.cast (ys := ((fun (q : List Int × List Int × Nat) => q.1) (q.1, q.2.1, q.2.2 + 1))) (RowG.ext hR142 RI.flat E167) (by (try dsimp only); try rfl)
              have hO200 := OwnQ.cast (ys := ((fun (q : List Int × List Int × Nat) => q.2.1) (q.1, q.2.1, q.2.2 + 1))) (OwnQ.same hO140 RI.flat ((Same.refl _ _).ext E167) hN134 (Nat.le_trans (Nat.le_trans (Below.size E81) (KpL.size E102)) (Below.size E120))) (by (try dsimp only); try rfl)
              refine ⟨(q.1, q.2.1, q.2.2 + 1), ⟨fun t => (([(Iv (n_ : Int)), (.func (.func f_counts) s_counts c_counts), (.func (.func f_beside) s_beside c_beside), Ud, Ud, Ud, (.slice none 0 0), (Iv 0), (.slice (some ⟨gr31, 0, none⟩) ((List.replicate n_ (iAt ([-1]) 0)).length) q19), (Iv ((numTo n_ pr_counts pr_beside k).2)), (Iv (k : Int)), (.slice p143 q.2.1.length q144), Ud, (Iv el3), (.slice (some ⟨b3, 0, none⟩) 1 1), (Iv (n_ : Int)), (.slice (some ⟨gr31, 0, none⟩) ((List.replicate n_ (iAt ([-1]) 0)).length) q19), (Iv (n_ : Int)), (Iv (k : Int)), (Bo (icmp .lss (k : Int) (n_ : Int))), (Iv (k : Int)), v53, v54, v55, v56, v57, v58, v59, v60, v61, v62, (Bo β1), (.slice (some ⟨gr31, 0, none⟩) ((List.replicate n_ (iAt ([-1]) 0)).length) q19), (Iv (k : Int)), (Iv ((numTo n_ pr_counts pr_beside k).2)), (Pt gr31 (k * 1)), (Iv (k : Int)), (.slice (some ⟨b78, 0, none⟩) 1 1), (.slice p107 s.2.length q108), (Iv (s.2.length : Int)), (Bo (icmp .gtr (s.2.length : Int) 0)), (u87 41), (u87 42), (.func (.func f_beside) s_beside c_beside), (.slice p107 s.2.length q108), (Pt b115 o116), (Iv el2), (.slice p122 ((pr_beside el2).length) q123), (Iv (((pr_beside el2).length) : Int)), (Iv ((q.2.2 : Int) + 1)), (Bo (icmp .lss (q.2.2 : Int) (((pr_beside el2).length) : Int))), (Pt b151 o152), (Iv el3), v156, v157, v158, v159, v160, v161, v162, v163, v164, (Bo β2), (u126 63), (u126 64), (u126 65), (u126 66), (u126 67), (u126 68), (u126 69), (u126 70), (Iv ((q.2.2 : Int) + 1)), (u40 72), (u40 73), (u40 74), Ud, Ud] : List Value)[t]?).getD undef, (.slice p143 q.2.1.length q144), ?_, (KpL.ext E138 E167), hR199, hO200, ?_⟩, ?_⟩
              · first | rfl | (simp only [Int.natCast_add, Int.natCast_one]; rfl)
              · (try dsimp only); first | exact ⟨r1 ++ [el3], by simp [hq1], hfd1.put (List.mem_of_getElem? hel3) hput.2 hrg3 hel4 hput.1 hkm.1, hpre.put hel3 (by omega) hkm.1, by simp only [List.length_append, List.length_cons, List.length_nil]; omega, by (try dsimp only); omega⟩ | exact ⟨r1, hq1, hfd1, hpre.skip hel3 hnput, hng, by (try dsimp only); omega⟩
              · (try dsimp only); omega
            have c148' := c148
            (try simp only [hβ1] at c148')
            (try simp only [icmp, Bool.and_eq_true, Bool.or_eq_true, Bool.and_eq_false_iff, Bool.or_eq_false_iff, Bool.not_eq_true', Bool.not_eq_false', decide_eq_true_eq, decide_eq_false_iff_not, beq_iff_eq, bne_iff_ne, beq_eq_false_iff_ne, bne_eq_false_iff_eq] at c148')
            refine wp_exit ?_
            refine hK113 _ _ ?_
            refine wp_region_lit ?_
            refine q_is rfl rfl (does_move (u := (.slice p143 q.2.1.length q144)) (ev rfl)) (by dsimp only [List.set]; try rfl) ?_
            refine seqd rfl rfl (does_tailQ (R := RI) (k := 1) (g0 := gg127) (B := w119.heap.size) (e := 2) (z := el2) (xs := r1) Try.underlying27 Try.sizeOf2 (ev rfl) (ev rfl) (OwnQ.cast hO140 (by exact hq1))) ?_; rintro y' w202 ⟨hw203, hO201⟩
            subst hw203
            obtain ⟨p204, q205, rfl⟩ := OwnQ.shape hO201
            have hH206 : Hang w74.heap.size w137 (fun u => Sl RI 1 u (.slice p204 r1.length q205) r1) := OwnQ.hang hO201 RI.flat (by decide) hN134 (Nat.le_trans (Nat.le_trans (Below.size E81) (KpL.size E102)) (Below.size E120))
            show wpList _ _ _ _ (fr [_, _, _, _, _, _, _, _, _, _, _, _, _, _, _, _, _, _, _, _, _, _, _, _, _, _, _, _, _, _, _, _, _, _, _, _, _, _, _, _, _, _, _, _, _, _, _, _, _, _, _, _, _, _, _, _, _, _, _, _, _, _, _, _, _, _, _, _, _, _, _, _, _, _, _, _, _]) _
            refine q_is rfl rfl (does_assign (u := (.slice p204 r1.length q205)) (ev rfl)) (by dsimp only [List.set]; try rfl) ?_
            refine wpList_nil ?_
            have hR207 := RowG.cast (ys := ((fun (s : List Int × List Int) => s.1) (q.1, r1))) hR142 (by (try dsimp only); try rfl)
            have hO208 := OwnQ.cast (ys := ((fun (s : List Int × List Int) => s.2) (q.1, r1))) (OwnQ.back hO201 hg128 (Nat.le_trans (KpL.size E102) (Below.size E120))) (by (try dsimp only); try rfl)
            refine ⟨(q.1, r1), ⟨fun t => (([(Iv (n_ : Int)), (.func (.func f_counts) s_counts c_counts), (.func (.func f_beside) s_beside c_beside), Ud, Ud, Ud, (.slice none 0 0), (Iv 0), (.slice (some ⟨gr31, 0, none⟩) ((List.replicate n_ (iAt ([-1]) 0)).length) q19), (Iv ((numTo n_ pr_counts pr_beside k).2)), (Iv (k : Int)), (.slice p204 r1.length q205), Ud, (u126 13), (.slice (some ⟨b3, 0, none⟩) 1 1), (Iv (n_ : Int)), (.slice (some ⟨gr31, 0, none⟩) ((List.replicate n_ (iAt ([-1]) 0)).length) q19), (Iv (n_ : Int)), (Iv (k : Int)), (Bo (icmp .lss (k : Int) (n_ : Int))), (Iv (k : Int)), v53, v54, v55, v56, v57, v58, v59, v60, v61, v62, (Bo β1), (.slice (some ⟨gr31, 0, none⟩) ((List.replicate n_ (iAt ([-1]) 0)).length) q19), (Iv (k : Int)), (Iv ((numTo n_ pr_counts pr_beside k).2)), (Pt gr31 (k * 1)), (Iv (k : Int)), (.slice (some ⟨b78, 0, none⟩) 1 1), (.slice p107 s.2.length q108), (Iv (s.2.length : Int)), (Bo (icmp .gtr (s.2.length : Int) 0)), (.slice p143 q.2.1.length q144), (.slice p204 r1.length q205), (.func (.func f_beside) s_beside c_beside), (.slice p107 s.2.length q108), (Pt b115 o116), (Iv el2), (.slice p122 ((pr_beside el2).length) q123), (Iv (((pr_beside el2).length) : Int)), (Iv (q.2.2 : Int)), (Bo (icmp .lss (q.2.2 : Int) (((pr_beside el2).length) : Int))), (u126 51), (u126 52), (u126 53), (u126 54), (u126 55), (u126 56), (u126 57), (u126 58), (u126 59), (u126 60), (u126 61), (u126 62), (u126 63), (u126 64), (u126 65), (u126 66), (u126 67), (u126 68), (u126 69), (u126 70), (u126 71), (u40 72), (u40 73), (u40 74), Ud, Ud] : List Value)[t]?).getD undef, (.slice p204 r1.length q205), ?_, (KpL.more (KpL.ext E102 E120) E138 (allS (.inl (by simp)) (allS (hg128.imp (fun h => by simp [h]) id) all0))), hR207, hO208, ?_⟩, ?_⟩
            · first | rfl | (simp only [Int.natCast_add, Int.natCast_one]; rfl)
            · (try dsimp only); exact hfd1.pop (hpre.all (by omega))
            · (rw [hq1] at hng; simp only [List.length_cons] at hng; (try dsimp only); omega)
        have c112' := c112
        (try simp only [hβ1] at c112')
        (try simp only [icmp, Bool.and_eq_true, Bool.or_eq_true, Bool.and_eq_false_iff, Bool.or_eq_false_iff, Bool.not_eq_true', Bool.not_eq_false', decide_eq_true_eq, decide_eq_false_iff_not, beq_iff_eq, bne_iff_ne, beq_eq_false_iff_ne, bne_eq_false_iff_eq] at c112')
        have hs0 : s.2 = [] := List.eq_nil_of_length_eq_zero (by omega)
        refine wp_exit ?_
        refine hK76 _ _ ?_
        refine wp_region_lit ?_
        refine q_is rfl rfl (does_move (u := (Iv ((numTo n_ pr_counts pr_beside k).2))) (ev rfl)) (by dsimp only [List.set]; try rfl) ?_
        refine q_is rfl rfl (does_iarith (p := (numTo n_ pr_counts pr_beside k).2) (q := 1) (r := ((numTo n_ pr_counts pr_beside k).2) + 1) (ev rfl) (ev rfl) (.inl ⟨rfl, (in_i64 (by omega) (by omega)).symm⟩)) (by dsimp only [List.set]; try rfl) ?_
        refine q_is rfl rfl (does_assign (u := (Iv (((numTo n_ pr_counts pr_beside k).2) + 1))) (ev rfl)) (by dsimp only [List.set]; try rfl) ?_
        refine wpList_nil (hK49 _ _ ?_)
        refine wp_region_lit ?_
        refine q_is rfl rfl (does_iarith (p := (k : Int)) (q := 1) (r := (k : Int) + 1) (ev rfl) (ev rfl) (.inl ⟨rfl, (in_i64 (by omega) (by omega)).symm⟩)) (by dsimp only [List.set]; try rfl) ?_
        refine q_is rfl rfl (does_move (u := (Iv ((k : Int) + 1))) (ev rfl)) (by dsimp only [List.set]; try rfl) ?_
        refine wpList_nil ?_
        have hR209 := RowG.cast (ys := ((fun (k : Nat) => (numTo n_ pr_counts pr_beside k).1) (k + 1))) hR106 (by (try dsimp only); first | exact (congrArg Prod.fst (numTo_skip hsk)).symm | (rw [numTo_new hn1 hnw.2]; exact Fld.finish G (by omega) hnw.2 hfr (hs0 ▸ hfd)))
        refine ⟨k + 1, ⟨fun t => (([(Iv (n_ : Int)), (.func (.func f_counts) s_counts c_counts), (.func (.func f_beside) s_beside c_beside), Ud, Ud, Ud, (.slice none 0 0), (Iv 0), (.slice (some ⟨gr31, 0, none⟩) ((List.replicate n_ (iAt ([-1]) 0)).length) q19), (Iv (((numTo n_ pr_counts pr_beside k).2) + 1)), (Iv (k : Int)), (.slice p107 s.2.length q108), Ud, (u87 13), (.slice (some ⟨b3, 0, none⟩) 1 1), (Iv (n_ : Int)), (.slice (some ⟨gr31, 0, none⟩) ((List.replicate n_ (iAt ([-1]) 0)).length) q19), (Iv (n_ : Int)), (Iv ((k : Int) + 1)), (Bo (icmp .lss (k : Int) (n_ : Int))), (Iv (k : Int)), v53, v54, v55, v56, v57, v58, v59, v60, v61, v62, (Bo β1), (.slice (some ⟨gr31, 0, none⟩) ((List.replicate n_ (iAt ([-1]) 0)).length) q19), (Iv (k : Int)), (Iv ((numTo n_ pr_counts pr_beside k).2)), (Pt gr31 (k * 1)), (Iv (k : Int)), (.slice (some ⟨b78, 0, none⟩) 1 1), (.slice p107 s.2.length q108), (Iv (s.2.length : Int)), (Bo (icmp .gtr (s.2.length : Int) 0)), (u87 41), (u87 42), (u87 43), (u87 44), (u87 45), (u87 46), (u87 47), (u87 48), (u87 49), (u87 50), (u87 51), (u87 52), (u87 53), (u87 54), (u87 55), (u87 56), (u87 57), (u87 58), (u87 59), (u87 60), (u87 61), (u87 62), (u87 63), (u87 64), (u87 65), (u87 66), (u87 67), (u87 68), (u87 69), (u87 70), (u87 71), (Iv ((numTo n_ pr_counts pr_beside k).2)), (Iv (((numTo n_ pr_counts pr_beside k).2) + 1)), (Iv ((k : Int) + 1)), Ud, Ud] : List Value)[t]?).getD undef, ?_, (KpL.more (KpL.ext (KpL.more (KpL.ext E42 E65) (KpL.of_wr W72) (allS (.inl (by simp)) all0)) E81) E102 (allS (.inl (by simp)) (allS (.inr (Nat.le_trans (KpL.more (KpL.ext E42 E65) (KpL.of_wr W72) (allS (.inl (by simp)) all0)).size hN98)) all0))), hR209, ?_⟩, ?_⟩
        · first | (rw [numTo_skip hsk]; rfl) | (rw [numTo_new hn1 hnw.2]; rfl)
        · omega
        · omega
    have c48' := c48
    (try simp only [icmp, Bool.and_eq_true, Bool.or_eq_true, Bool.and_eq_false_iff, Bool.or_eq_false_iff, Bool.not_eq_true', Bool.not_eq_false', decide_eq_true_eq, decide_eq_false_iff_not, beq_iff_eq, bne_iff_ne, beq_eq_false_iff_ne, bne_eq_false_iff_eq] at c48')
    refine wp_exit ?_
    refine hK21 _ _ ?_
    refine wp_seq_k fun K210 hK210 => ?_
    refine wp_region_lit ?_
    refine q_is rfl rfl (does_move (u := (.slice (some ⟨gr31, 0, none⟩) ((List.replicate n_ (iAt ([-1]) 0)).length) q19)) (ev rfl)) (by dsimp only [List.set]; try rfl) ?_
    refine q_is rfl rfl (does_move (u := (Iv ((numTo n_ pr_counts pr_beside k).2))) (ev rfl)) (by dsimp only [List.set]; try rfl) ?_
    refine q_is rfl rfl (does_assign (u := (.slice (some ⟨gr31, 0, none⟩) ((List.replicate n_ (iAt ([-1]) 0)).length) q19)) (ev rfl)) (by dsimp only [List.set]; try rfl) ?_
    refine q_is rfl rfl (does_assign (u := (Iv ((numTo n_ pr_counts pr_beside k).2))) (ev rfl)) (by dsimp only [List.set]; try rfl) ?_
    refine wpList_nil (hK210 _ _ ?_)
    refine wp_ret ?_
    refine ret_val (v := (.tuple #[(.slice (some ⟨gr31, 0, none⟩) ((List.replicate n_ (iAt ([-1]) 0)).length) q19), (Iv ((numTo n_ pr_counts pr_beside k).2))])) (res_TT rfl (slot rfl) (slot rfl)) X44 ?_
    have x211 : ((numTo n_ pr_counts pr_beside n_).2 : Int) = ((numTo n_ pr_counts pr_beside k).2) := by first | rfl | (rw [show k = n_ by omega])
    have x212 : ((numTo n_ pr_counts pr_beside k).1) = ((numTo n_ pr_counts pr_beside n_).1) := by first | rfl | (rw [show k = n_ by omega])
    have x213 : ((numTo n_ pr_counts pr_beside k).1) = ((numTo n_ pr_counts pr_beside n_).1) := by first | rfl | (rw [show k = n_ by omega])
    exact ⟨(.slice (some ⟨gr31, 0, none⟩) ((List.replicate n_ (iAt ([-1]) 0)).length) q19), [gr31], (by first | with_reducible rfl | rw [x211] | rfl), (Hang.castL (RowG.hang hR45 RI.flat (by first | assumption | omega | (simp only [numTo_len, List.length_replicate, List.length_set, List.length_set, List.length_replicate]; omega) | (simp only [numTo_len, List.length_replicate, List.length_set, List.length_set, List.length_replicate]; done)) g38 hcap35 (by omega) (by decide)) x212), (WL.cast (WL.cast (RowG.wl hR45 (by first | assumption | omega | (simp only [numTo_len, List.length_replicate, List.length_set, List.length_set, List.length_replicate]; omega) | (simp only [numTo_len, List.length_replicate, List.length_set, List.length_set, List.length_replicate]; done)) g38 hcap35) (by first | rfl | (symm; first | assumption | omega | (simp only [numTo_len, List.length_replicate, List.length_set, List.length_set, List.length_replicate]; omega) | (simp only [numTo_len, List.length_replicate, List.length_set, List.length_set, List.length_replicate]; done)))) (congrArg List.length x213))⟩

/- impl.PiecesOf$1 -/
theorem c_impl_PiecesOf_1 (i_ : Int) (bx_b : Nat) (bx_o : Nat) (bs : Value) (L_bs : List (List Int)) (w : World) (hv_bs : Sl (RS RI 1) 1 w bs L_bs) (hc_bx : Cells w bx_b bx_o [bs]) (hix : 0 ≤ i_ ∧ i_ < L_bs.length) : Gives Try.prog 28 #[(Iv i_), (Pt bx_b bx_o)] w (fun v w' => v = (Bo (hasA L_bs i_))) := by
  have hlen_bs := Sl.len hv_bs; obtain ⟨p_bs, q_bs, rfl⟩ := Sl.shape hv_bs
  refine enter [(Iv i_), (Pt bx_b bx_o), Ud, Ud, Ud, Ud, Ud, Ud, Ud, Ud] Try.func28 rfl Try.ntmps28 rfl ?_
  refine wp_seq_k fun K1 hK1 => ?_
  refine wp_region_lit ?_
  refine q_is (l' := [(Iv i_), (Pt bx_b bx_o), Ud, (Bo false), Ud, Ud, Ud, Ud, Ud, Ud]) rfl rfl (does_assign (u := (Bo false)) (ev rfl)) rfl ?_
  refine wpList_nil (hK1 _ _ ?_)
  refine wp_seq_k fun K2 hK2 => ?_
  refine wp_region_lit ?_
  refine q_is (l' := [(Iv i_), (Pt bx_b bx_o), Ud, (Bo false), (.slice p_bs L_bs.length q_bs), Ud, Ud, Ud, Ud, Ud]) rfl rfl (does_load (u := (.slice p_bs L_bs.length q_bs)) (ev rfl) Try.isAgg23 (Cells.at hc_bx 0 rfl)) rfl ?_
  refine q_is (l' := [(Iv i_), (Pt bx_b bx_o), Ud, (Bo false), (.slice p_bs L_bs.length q_bs), (Iv i_), Ud, Ud, Ud, Ud]) rfl rfl (does_move (u := (Iv i_)) (ev rfl)) rfl ?_
  obtain ⟨el1, hel1⟩ : ∃ e, L_bs[i_.toNat]? = some e := ⟨_, List.getElem?_eq_getElem (by omega)⟩
  refine seqd rfl rfl (does_indexSl (R := (RS RI 1)) (i := i_) (xs := L_bs) (e := el1) Try.underlying23 Try.sizeOf27 (ev rfl) (ev rfl) hv_bs (by omega) hel1) ?_; rintro _ w ⟨b3, o4, _, rfl, hc6, ⟨y7, rfl, h8⟩, rfl⟩
  have hs11 := h8; have hs11l := Sl.len h8; obtain ⟨p9, q10, rfl⟩ := Sl.shape h8
  show wpList _ _ _ _ (fr [(Iv i_), (Pt bx_b bx_o), Ud, (Bo false), (.slice p_bs L_bs.length q_bs), (Iv i_), (Pt b3 o4), Ud, Ud, Ud]) _
  refine q_is (l' := [(Iv i_), (Pt bx_b bx_o), Ud, (Bo false), (.slice p_bs L_bs.length q_bs), (Iv i_), (Pt b3 o4), (.slice p9 el1.length q10), Ud, Ud]) rfl rfl (does_load (u := (.slice p9 el1.length q10)) (ev rfl) Try.isAgg27 (Cells.at hc6 0 rfl)) rfl ?_
  refine q_is (l' := [(Iv i_), (Pt bx_b bx_o), Ud, (Bo false), (.slice p_bs L_bs.length q_bs), (Iv i_), (Pt b3 o4), (.slice p9 el1.length q10), (Iv (el1.length : Int)), Ud]) rfl rfl (does_len_slice Try.underlying27 (ev rfl)) rfl ?_
  refine q_is (l' := [(Iv i_), (Pt bx_b bx_o), Ud, (Bo false), (.slice p_bs L_bs.length q_bs), (Iv i_), (Pt b3 o4), (.slice p9 el1.length q10), (Iv (el1.length : Int)), (Bo (icmp .gtr (el1.length : Int) 0))]) rfl rfl (does_icmp (p := (el1.length : Int)) (q := 0) (.inr (.inr (.inr (.inr (.inl rfl))))) (ev rfl) (ev rfl)) rfl ?_
  refine q_is (l' := [(Iv i_), (Pt bx_b bx_o), Ud, (Bo (icmp .gtr (el1.length : Int) 0)), (.slice p_bs L_bs.length q_bs), (Iv i_), (Pt b3 o4), (.slice p9 el1.length q10), (Iv (el1.length : Int)), (Bo (icmp .gtr (el1.length : Int) 0))]) rfl rfl (does_assign (u := (Bo (icmp .gtr (el1.length : Int) 0))) (ev rfl)) rfl ?_
  refine wpList_nil (hK2 _ _ ?_)
  refine wp_ret ?_
  refine ret_val (v := (Bo (icmp .gtr (el1.length : Int) 0))) (res_T rfl (slot rfl)) (Ext.refl w) ?_
  have x12 : (hasA L_bs i_) = (icmp .gtr (el1.length : Int) 0) := by first | exact hasA_at hel1 | exact (hasA_at hel1).symm
  exact (by first | with_reducible rfl | rw [x12] | rfl)

/- impl.PiecesOf$2 -/
theorem c_impl_PiecesOf_2 (i_ : Int) (bx_b : Nat) (bx_o : Nat) (bs : Value) (L_bs : List Value) (w : World) (hv_bs : Sl RVl 1 w bs L_bs) (hc_bx : Cells w bx_b bx_o [bs]) (hix : 0 ≤ i_ ∧ i_ < L_bs.length) : Gives Try.prog 29 #[(Iv i_), (Pt bx_b bx_o)] w (fun v w' => v = (vAtL L_bs i_)) := by
  have hlen_bs := Sl.len hv_bs; obtain ⟨p_bs, q_bs, rfl⟩ := Sl.shape hv_bs
  refine enter [(Iv i_), (Pt bx_b bx_o), Ud, Ud, Ud, Ud, Ud, Ud] Try.func29 rfl Try.ntmps29 rfl ?_
  refine wp_seq_k fun K1 hK1 => ?_
  refine wp_region_lit ?_
  refine q_is (l' := [(Iv i_), (Pt bx_b bx_o), Ud, (.slice none 0 0), Ud, Ud, Ud, Ud]) rfl rfl (does_assign (u := (.slice none 0 0)) (ev rfl)) rfl ?_
  refine wpList_nil (hK1 _ _ ?_)
  refine wp_seq_k fun K2 hK2 => ?_
  refine wp_region_lit ?_
  refine q_is (l' := [(Iv i_), (Pt bx_b bx_o), Ud, (.slice none 0 0), (.slice p_bs L_bs.length q_bs), Ud, Ud, Ud]) rfl rfl (does_load (u := (.slice p_bs L_bs.length q_bs)) (ev rfl) Try.isAgg23 (Cells.at hc_bx 0 rfl)) rfl ?_
  refine q_is (l' := [(Iv i_), (Pt bx_b bx_o), Ud, (.slice none 0 0), (.slice p_bs L_bs.length q_bs), (Iv i_), Ud, Ud]) rfl rfl (does_move (u := (Iv i_)) (ev rfl)) rfl ?_
  obtain ⟨el1, hel1⟩ : ∃ e, L_bs[i_.toNat]? = some e := ⟨_, List.getElem?_eq_getElem (by omega)⟩
  refine seqd rfl rfl (does_indexSl (R := RVl) (i := i_) (xs := L_bs) (e := el1) Try.underlying23 Try.sizeOf27 (ev rfl) (ev rfl) hv_bs (by omega) hel1) ?_; rintro _ w ⟨b3, o4, _, rfl, hc6, rfl, rfl⟩
  show wpList _ _ _ _ (fr [(Iv i_), (Pt bx_b bx_o), Ud, (.slice none 0 0), (.slice p_bs L_bs.length q_bs), (Iv i_), (Pt b3 o4), Ud]) _
  refine q_is (l' := [(Iv i_), (Pt bx_b bx_o), Ud, (.slice none 0 0), (.slice p_bs L_bs.length q_bs), (Iv i_), (Pt b3 o4), el1]) rfl rfl (does_load (u := el1) (ev rfl) Try.isAgg27 (Cells.at hc6 0 rfl)) rfl ?_
  refine q_is (l' := [(Iv i_), (Pt bx_b bx_o), Ud, el1, (.slice p_bs L_bs.length q_bs), (Iv i_), (Pt b3 o4), el1]) rfl rfl (does_assign (u := el1) (ev rfl)) rfl ?_
  refine wpList_nil (hK2 _ _ ?_)
  refine wp_ret ?_
  refine ret_val (v := el1) (res_T rfl (slot rfl)) (Ext.refl w) ?_
  have x7 : (vAtL L_bs i_) = el1 := by (show _ = _; simp [vAtL, hel1])
  exact (by first | with_reducible rfl | rw [x7] | rfl)

/- impl.PiecesOf -/
theorem c_impl_PiecesOf (m : List Value) (A_m : MeshT) (w : World) (hv_m : RMeshT w A_m m) : Gives Try.prog 8 #[(.agg m.toArray)] w (fun v w' => ∃ y_1 : Value, ∃ Lw_2 : List Nat, v = (.tuple #[y_1, (Iv ((pcsM A_m).2)), (Bo (meshOk A_m))]) ∧ Hang w.heap.size w' (fun u => Sl RI 1 u y_1 ((pcsM A_m).1)) ∧ WL 1 w.heap.size w' Lw_2 y_1 ((pcsM A_m).1).length) := by
  obtain ⟨y1, y3, rfl, h2, h4⟩ := hv_m
  have hs7 := h2; have hs7l := Sl.len h2; obtain ⟨p5, q6, rfl⟩ := Sl.shape h2
  have hs10 := h4; have hs10l := Sl.len h4; obtain ⟨p8, q9, rfl⟩ := Sl.shape h4
  refine enter [(.agg #[(.slice p5 A_m.places.length q6), (.slice p8 A_m.tris.length q9)]), Ud, Ud, Ud, Ud, Ud, Ud, Ud, Ud, Ud, Ud, Ud, Ud, Ud, Ud, Ud, Ud, Ud, Ud, Ud, Ud, Ud, Ud, Ud, Ud, Ud, Ud, Ud, Ud, Ud, Ud, Ud, Ud, Ud, Ud, Ud, Ud, Ud, Ud, Ud, Ud, Ud, Ud, Ud, Ud, Ud, Ud, Ud, Ud, Ud, Ud, Ud, Ud, Ud] Try.func8 rfl Try.ntmps8 rfl ?_
  refine wp_seq_k fun K11 hK11 => ?_
  refine wp_region_lit ?_
  refine seqd rfl rfl (does_box (u := (.agg #[(.slice p5 A_m.places.length q6), (.slice p8 A_m.tris.length q9)])) (ev rfl)) ?_; rintro _ w16 ⟨b12, rfl, hb13, hB14, E15⟩
  have g17 : w.heap.size ≤ b12 := Nat.le_trans (Below.size (Ext.refl w)) hb13
  change Blk _ _ [(.slice p5 A_m.places.length q6), (.slice p8 A_m.tris.length q9)] at hB14
  have X18 := Ext.gr (Ext.refl w) E15
  show wpList _ _ _ _ (fr [_, _, _, _, _, _, _, _, _, _, _, _, _, _, _, _, _, _, _, _, _, _, _, _, _, _, _, _, _, _, _, _, _, _, _, _, _, _, _, _, _, _, _, _, _, _, _, _, _, _, _, _, _, _]) _
  refine q_is rfl rfl (does_assign (u := (.slice none 0 0)) (ev rfl)) (by dsimp only [List.set]; try rfl) ?_
  refine q_is rfl rfl (does_assign (u := (Iv 0)) (ev rfl)) (by dsimp only [List.set]; try rfl) ?_
  refine q_is rfl rfl (does_assign (u := (Bo false)) (ev rfl)) (by dsimp only [List.set]; try rfl) ?_
  refine wpList_nil (hK11 _ _ ?_)
  refine wp_seq_k fun K19 hK19 => ?_
  refine wp_seq_k fun K20 hK20 => ?_
  refine wp_region_lit ?_
  refine q_is rfl rfl (does_loadAgg (cs := [(.slice p5 A_m.places.length q6), (.slice p8 A_m.tris.length q9)]) (ev rfl) Try.isAgg32 Try.sizeOf32 (Blk.cells hB14) rfl) (by dsimp only [List.set]; try rfl) ?_
  refine seqd rfl rfl (does_call (args := #[(.agg #[(.slice p5 A_m.places.length q6), (.slice p8 A_m.tris.length q9)])]) cal26 (evs rfl) (c_impl_ValidMesh [(.slice p5 A_m.places.length q6), (.slice p8 A_m.tris.length q9)] A_m _ ⟨(.slice p5 A_m.places.length q6), (.slice p8 A_m.tris.length q9), rfl, (Sl.ext hs7 RV3.mono X18), (Sl.ext hs10 (RS.mono RI.mono) X18)⟩)) ?_; rintro _ w22 ⟨E21, rfl⟩
  have X23 := Ext.gr X18 E21
  show wpList _ _ _ _ (fr [_, _, _, _, _, _, _, _, _, _, _, _, _, _, _, _, _, _, _, _, _, _, _, _, _, _, _, _, _, _, _, _, _, _, _, _, _, _, _, _, _, _, _, _, _, _, _, _, _, _, _, _, _, _]) _
  refine q_is rfl rfl (does_not (ev rfl)) (by dsimp only [List.set]; try rfl) ?_
  refine wpList_nil (hK20 _ _ ?_)
  refine wp_cond_split (t := !(meshOk A_m)) (ev rfl) (fun c24 => ?_) (fun c24 => ?_)
  · rw [Bool.not_eq_true'] at c24
    have c24' := c24
    have hmf : meshOk A_m = false := c24
    refine wp_seq_k fun K25 hK25 => ?_
    refine wp_region_lit ?_
    refine q_is rfl rfl (does_assign (u := (.slice none 0 0)) (ev rfl)) (by dsimp only [List.set]; try rfl) ?_
    refine q_is rfl rfl (does_assign (u := (Iv 0)) (ev rfl)) (by dsimp only [List.set]; try rfl) ?_
    refine q_is rfl rfl (does_assign (u := (Bo false)) (ev rfl)) (by dsimp only [List.set]; try rfl) ?_
    refine wpList_nil (hK25 _ _ ?_)
    refine wp_ret ?_
    dsimp only [Exit.then, Exit.inBlock]
    refine ret_val (v := (.tuple #[(.slice none 0 0), (Iv 0), (Bo false)])) (res_TTT rfl (slot rfl) (slot rfl) (slot rfl)) X23 ?_
    have x26 : ((pcsM A_m).2 : Int) = 0 := by first | exact hmf | exact hmt | (rw [pcsM_f hmf]; done) | (rw [pcsM_f hmf]; rfl) | (rw [pcsM_t hmt]; done) | (rw [pcsM_t hmt]; rfl) | (rw [pcsM_s hmt, show k = A_m.places.length by omega]; done) | (rw [pcsM_s hmt, show k = A_m.places.length by omega])
    have x27 : (meshOk A_m) = false := by first | exact hmf | exact hmt | (rw [pcsM_f hmf]; done) | (rw [pcsM_f hmf]; rfl) | (rw [pcsM_t hmt]; done) | (rw [pcsM_t hmt]; rfl) | (rw [pcsM_s hmt, show k = A_m.places.length by omega]; done) | (rw [pcsM_s hmt, show k = A_m.places.length by omega])
    have x28 : ([]) = ((pcsM A_m).1) := by first | exact hmf | exact hmt | (rw [pcsM_f hmf]; done) | (rw [pcsM_f hmf]; rfl) | (rw [pcsM_t hmt]; done) | (rw [pcsM_t hmt]; rfl) | (rw [pcsM_s hmt, show k = A_m.places.length by omega]; done) | (rw [pcsM_s hmt, show k = A_m.places.length by omega])
    have x29 : ([]) = ((pcsM A_m).1) := by first | exact hmf | exact hmt | (rw [pcsM_f hmf]; done) | (rw [pcsM_f hmf]; rfl) | (rw [pcsM_t hmt]; done) | (rw [pcsM_t hmt]; rfl) | (rw [pcsM_s hmt, show k = A_m.places.length by omega]; done) | (rw [pcsM_s hmt, show k = A_m.places.length by omega])
    exact ⟨(.slice none 0 0), [], (by first | with_reducible rfl | rw [x26, x27] | rw [x27, x26] | rfl), (Hang.castL (Sl.hang_nil _ _ _ _) x28), (WL.cast (WL.nil _ _ _) (congrArg List.length x29))⟩
  rw [Bool.not_eq_false'] at c24
  have c24' := c24
  have hmt : meshOk A_m = true := c24
  have hml := mesh_len hmt
  have hnl := nextL_len A_m
  refine wp_skip (hK19 _ _ ?_)
  refine wp_seq_k fun K30 hK30 => ?_
  refine wp_region_lit ?_
  refine q_is rfl rfl (does_fieldAddr (ev rfl) fa32_0) (by dsimp only [List.set]; try rfl) ?_
  refine q_is rfl rfl (does_load (u := (.slice p5 A_m.places.length q6)) (ev rfl) Try.isAgg30 (Cells.at (Blk.cells (hB14.ext E21)) 0 rfl)) (by dsimp only [List.set]; try rfl) ?_
  refine q_is rfl rfl (does_len_slice Try.underlying30 (ev rfl)) (by dsimp only [List.set]; try rfl) ?_
  refine seqd rfl rfl (does_makeSlice (n := A_m.places.length) Try.underlying23 inf27 (ev rfl) (ev rfl) (by omega)) ?_; rintro _ w35 ⟨b31, rfl, hb32, ⟨cs36, hB33, hl37, hz38⟩, E34⟩
  have n39 : b12 < b31 := Nat.lt_of_lt_of_le (Blk.lt (hB14.ext E21)) hb32
  have g40 : w.heap.size ≤ b31 := Nat.le_trans (Below.size X23) hb32
  have X41 := Ext.gr X23 E34
  have hR42 : RowG RVl 1 w35 b31 (List.replicate A_m.places.length (.slice none 0 0)) := RowG.made (z := (.slice none 0 0)) hB33 rfl rfl hz38 rfl
  have n44 : b12 < w35.heap.size := Blk.lt ((hB14.ext E21).ext E34)
  have n45 : b31 < w35.heap.size := RowG.lt hR42
  have hN43 : NxI 2 w35.heap.size w35 (List.replicate A_m.places.length (.slice none 0 0)) (List.replicate A_m.places.length []) := NxI.zero _ (Nat.le_refl _)
  show wpList _ _ _ _ (fr [_, _, _, _, _, _, _, _, _, _, _, _, _, _, _, _, _, _, _, _, _, _, _, _, _, _, _, _, _, _, _, _, _, _, _, _, _, _, _, _, _, _, _, _, _, _, _, _, _, _, _, _, _, _]) _
  refine seqd rfl rfl (does_alloc z23) ?_; rintro _ w50 ⟨b46, rfl, hb47, hB48, E49⟩
  have n51 : b12 < b46 := Nat.lt_of_lt_of_le (Blk.lt ((hB14.ext E21).ext E34)) hb47
  have n52 : b31 < b46 := Nat.lt_of_lt_of_le (RowG.lt hR42) hb47
  have g53 : w.heap.size ≤ b46 := Nat.le_trans (Below.size X41) hb47
  change Blk _ _ [(.slice none 0 0)] at hB48
  have X54 := Ext.gr X41 E49
  show wpList _ _ _ _ (fr [_, _, _, _, _, _, _, _, _, _, _, _, _, _, _, _, _, _, _, _, _, _, _, _, _, _, _, _, _, _, _, _, _, _, _, _, _, _, _, _, _, _, _, _, _, _, _, _, _, _, _, _, _, _]) _
  refine seqn rfl rfl (does_store (n := 1) (cs := [(.slice none 0 0)]) (u := (.slice (some ⟨b31, 0, none⟩) A_m.places.length A_m.places.length)) (ev rfl) (ev rfl) Try.sizeOf23 rfl hB48 (Nat.le_of_ble_eq_true rfl) rfl) ?_; rintro _ w57 ⟨rfl, W55, hB56⟩
  change Blk _ _ [(.slice (some ⟨b31, 0, none⟩) A_m.places.length A_m.places.length)] at hB56
  have X58 := Below.wr X54 W55 g53
  refine wpList_nil (hK30 _ _ ?_)
  refine wp_seq_k fun K59 hK59 => ?_
  refine wp_seq_k fun K60 hK60 => ?_
  refine wp_region_lit ?_
  refine q_is rfl rfl (does_fieldAddr (ev rfl) fa32_1) (by dsimp only [List.set]; try rfl) ?_
  refine q_is rfl rfl (does_load (u := (.slice p8 A_m.tris.length q9)) (ev rfl) Try.isAgg23 (Cells.at (Blk.cells ((((hB14.ext E21).ext E34).ext E49).wr W55 (Nat.ne_of_lt n51))) 1 rfl)) (by dsimp only [List.set]; try rfl) ?_
  refine q_is rfl rfl (does_len_slice Try.underlying23 (ev rfl)) (by dsimp only [List.set]; try rfl) ?_
  refine q_is rfl rfl (does_move (u := (Iv 0)) (ev rfl)) (by dsimp only [List.set]; try rfl) ?_
  refine wpList_nil (hK60 _ _ ?_)
  refine wp_block ?_
  have n62 : b12 < w57.heap.size := Blk.lt ((((hB14.ext E21).ext E34).ext E49).wr W55 (Nat.ne_of_lt n51))
  have n63 : b31 < w57.heap.size := RowG.lt (RowG.kl (RowG.ext hR42 RVl.flat E49) RVl.flat (KpL.of_wr W55) (ninS (Nat.ne_of_lt n52) nin0))
  have n64 : b46 < w57.heap.size := Blk.lt hB56
  refine loop_ghost (σ := Nat) (fun k a w' => ∃ u61 : Nat → Value, a = fr [(.agg #[(.slice p5 A_m.places.length q6), (.slice p8 A_m.tris.length q9)]), (Pt b12 0), (.slice none 0 0), (Iv 0), (Bo false), (Pt b46 0), Ud, (u61 7), Ud, (u61 9), Ud, Ud, (.agg #[(.slice p5 A_m.places.length q6), (.slice p8 A_m.tris.length q9)]), (Bo (meshOk A_m)), (Bo (!(meshOk A_m))), (Pt b12 0), (.slice p5 A_m.places.length q6), (Iv (A_m.places.length : Int)), (.slice (some ⟨b31, 0, none⟩) A_m.places.length A_m.places.length), (Pt b12 1), (.slice p8 A_m.tris.length q9), (Iv (A_m.tris.length : Int)), (Iv (k : Int)), (u61 23), (u61 24), (u61 25), (u61 26), (u61 27), (u61 28), (u61 29), (u61 30), (u61 31), (u61 32), (u61 33), (u61 34), (u61 35), (u61 36), (u61 37), (u61 38), (u61 39), (u61 40), (u61 41), (u61 42), Ud, Ud, Ud, Ud, Ud, Ud, Ud, Ud, Ud, Ud, Ud] ∧ KpC w57.heap.size [b31] w57 w' ∧ (∃ vs, RowG RVl 1 w' b31 vs ∧ NxI 2 w57.heap.size w' vs (besTo A_m k)) ∧ (k ≤ A_m.tris.length)) (fun k => A_m.tris.length - k) 0 ?_ ?_
  · refine ⟨fun t => (([(.agg #[(.slice p5 A_m.places.length q6), (.slice p8 A_m.tris.length q9)]), (Pt b12 0), (.slice none 0 0), (Iv 0), (Bo false), (Pt b46 0), Ud, Ud, Ud, Ud, Ud, Ud, (.agg #[(.slice p5 A_m.places.length q6), (.slice p8 A_m.tris.length q9)]), (Bo (meshOk A_m)), (Bo (!(meshOk A_m))), (Pt b12 0), (.slice p5 A_m.places.length q6), (Iv (A_m.places.length : Int)), (.slice (some ⟨b31, 0, none⟩) A_m.places.length A_m.places.length), (Pt b12 1), (.slice p8 A_m.tris.length q9), (Iv (A_m.tris.length : Int)), (Iv 0), Ud, Ud, Ud, Ud, Ud, Ud, Ud, Ud, Ud, Ud, Ud, Ud, Ud, Ud, Ud, Ud, Ud, Ud, Ud, Ud, Ud, Ud, Ud, Ud, Ud, Ud, Ud, Ud, Ud, Ud, Ud] : List Value)[t]?).getD undef, rfl, KpC.refl _ _ _, ⟨_, (RowG.kl (RowG.ext hR42 RVl.flat E49) RVl.flat (KpL.of_wr W55) (ninS (Nat.ne_of_lt n52) nin0)), NxI.cast (NxI.zero _ (Nat.le_refl _)) (by (try dsimp only); rfl)⟩, ?_⟩
    exact Nat.zero_le _
  · rintro k a w65 ⟨u61, rfl, E66, ⟨vs0_k, hRv0, hNx0⟩, hk⟩
    obtain ⟨Lx68, K69, hL70⟩ := E66
    have X71 := Below.kl X58 K69 (fun c hc => (hL70 c hc).elim ((allS g40 all0) c) (fun h => Nat.le_trans (Below.size X58) h)) (Nat.le_refl _)
    have hR72 := hRv0; have hN73 := hNx0; clear hRv0 hNx0; have hvl73 := (NxI.len hN73).trans (show (besTo A_m k).length = A_m.places.length from by simp only [besQ_len, besTo_len])
    refine wp_seq_k fun K74 hK74 => ?_
    refine wp_region_lit ?_
    refine q_is rfl rfl (does_icmp (p := (k : Int)) (q := (A_m.tris.length : Int)) (.inr (.inr (.inl rfl))) (ev rfl) (ev rfl)) (by dsimp only [List.set]; try rfl) ?_
    refine wpList_nil (hK74 _ _ ?_)
    refine wp_seq_k fun K75 hK75 => ?_
    refine wp_cond_split (t := icmp .lss (k : Int) (A_m.tris.length : Int)) (ev rfl) (fun c76 => ?_) (fun c76 => ?_)
    · have c76' := c76
      (try simp only [icmp, Bool.and_eq_true, Bool.or_eq_true, Bool.and_eq_false_iff, Bool.or_eq_false_iff, Bool.not_eq_true', Bool.not_eq_false', decide_eq_true_eq, decide_eq_false_iff_not, beq_iff_eq, bne_iff_ne, beq_eq_false_iff_ne, bne_eq_false_iff_eq] at c76')
      refine wp_skip (hK75 _ _ ?_)
      refine wp_seq_k fun K77 hK77 => ?_
      refine wp_block ?_
      refine wp_seq_k fun K78 hK78 => ?_
      refine wp_region_lit ?_
      obtain ⟨el1, hel1⟩ : ∃ e, A_m.tris[k]? = some e := ⟨_, List.getElem?_eq_getElem (by omega)⟩
      refine seqd rfl rfl (does_indexSl0 (R := (RS RI 1)) (i := (k : Int)) (xs := A_m.tris) (e := el1) Try.underlying23 Try.sizeOf27 (ev rfl) (ev rfl) hs10 (by omega) hel1) ?_; rintro _ w65 ⟨b79, o80, _, rfl, hc82, ⟨y83, rfl, h84⟩, rfl⟩
      have hs87 := h84; have hs87l := Sl.len h84; obtain ⟨p85, q86, rfl⟩ := Sl.shape h84
      show wpList _ _ _ _ (fr [_, _, _, _, _, _, _, _, _, _, _, _, _, _, _, _, _, _, _, _, _, _, _, _, _, _, _, _, _, _, _, _, _, _, _, _, _, _, _, _, _, _, _, _, _, _, _, _, _, _, _, _, _, _]) _
      refine q_is rfl rfl (does_load (u := (.slice p85 el1.length q86)) (ev rfl) Try.isAgg27 (Cells.at (hc82.ext X71) 0 rfl)) (by dsimp only [List.set]; try rfl) ?_
      refine q_is rfl rfl (does_assign (u := (.slice p85 el1.length q86)) (ev rfl)) (by dsimp only [List.set]; try rfl) ?_
      refine wpList_nil (hK78 _ _ ?_)
      refine wp_seq_k fun K88 hK88 => ?_
      refine wp_region_lit ?_
      have htr := mesh_tri hmt hel1
      have ht3 := htr.1
      refine q_is rfl rfl (does_move (u := (.slice p85 el1.length q86)) (ev rfl)) (by dsimp only [List.set]; try rfl) ?_
      refine q_is rfl rfl (does_len_slice Try.underlying27 (ev rfl)) (by dsimp only [List.set]; try rfl) ?_
      refine q_is rfl rfl (does_move (u := (Iv 0)) (ev rfl)) (by dsimp only [List.set]; try rfl) ?_
      refine wpList_nil (hK88 _ _ ?_)
      refine wp_block ?_
      refine loop_ghost (σ := Nat) (fun q a w' => ∃ u89 : Nat → Value, a = fr [(.agg #[(.slice p5 A_m.places.length q6), (.slice p8 A_m.tris.length q9)]), (Pt b12 0), (.slice none 0 0), (Iv 0), (Bo false), (Pt b46 0), Ud, (.slice p85 el1.length q86), Ud, (u89 9), Ud, Ud, (.agg #[(.slice p5 A_m.places.length q6), (.slice p8 A_m.tris.length q9)]), (Bo (meshOk A_m)), (Bo (!(meshOk A_m))), (Pt b12 0), (.slice p5 A_m.places.length q6), (Iv (A_m.places.length : Int)), (.slice (some ⟨b31, 0, none⟩) A_m.places.length A_m.places.length), (Pt b12 1), (.slice p8 A_m.tris.length q9), (Iv (A_m.tris.length : Int)), (Iv (k : Int)), (Bo (icmp .lss (k : Int) (A_m.tris.length : Int))), (Pt b79 o80), (.slice p85 el1.length q86), (.slice p85 el1.length q86), (Iv (el1.length : Int)), (Iv (q : Int)), (u89 29), (u89 30), (u89 31), (u89 32), (u89 33), (u89 34), (u89 35), (u89 36), (u89 37), (u89 38), (u89 39), (u89 40), (u89 41), (u61 42), Ud, Ud, Ud, Ud, Ud, Ud, Ud, Ud, Ud, Ud, Ud] ∧ KpC w57.heap.size [b31] w65 w' ∧ (∃ vs, RowG RVl 1 w' b31 vs ∧ NxI 2 w57.heap.size w' vs (besQ el1 (besTo A_m k) q)) ∧ (q ≤ 3)) (fun q => 3 - q) 0 ?_ ?_
      · refine ⟨fun t => (([(.agg #[(.slice p5 A_m.places.length q6), (.slice p8 A_m.tris.length q9)]), (Pt b12 0), (.slice none 0 0), (Iv 0), (Bo false), (Pt b46 0), Ud, (.slice p85 el1.length q86), Ud, (u61 9), Ud, Ud, (.agg #[(.slice p5 A_m.places.length q6), (.slice p8 A_m.tris.length q9)]), (Bo (meshOk A_m)), (Bo (!(meshOk A_m))), (Pt b12 0), (.slice p5 A_m.places.length q6), (Iv (A_m.places.length : Int)), (.slice (some ⟨b31, 0, none⟩) A_m.places.length A_m.places.length), (Pt b12 1), (.slice p8 A_m.tris.length q9), (Iv (A_m.tris.length : Int)), (Iv (k : Int)), (Bo (icmp .lss (k : Int) (A_m.tris.length : Int))), (Pt b79 o80), (.slice p85 el1.length q86), (.slice p85 el1.length q86), (Iv (el1.length : Int)), (Iv 0), (u61 29), (u61 30), (u61 31), (u61 32), (u61 33), (u61 34), (u61 35), (u61 36), (u61 37), (u61 38), (u61 39), (u61 40), (u61 41), (u61 42), Ud, Ud, Ud, Ud, Ud, Ud, Ud, Ud, Ud, Ud, Ud] : List Value)[t]?).getD undef, rfl, KpC.refl _ _ _, ⟨_, hR72, NxI.cast hN73 (by (try dsimp only); rfl)⟩, ?_⟩
        exact Nat.zero_le _
      · rintro q a w90 ⟨u89, rfl, E91, ⟨vs0_q, hRv0, hNx0⟩, hq⟩
        obtain ⟨Lx93, K94, hL95⟩ := E91
        have X96 := Below.kl X71 K94 (fun c hc => (hL95 c hc).elim ((allS g40 all0) c) (fun h => Nat.le_trans (Below.size (Below.wr (Ext.gr (Ext.gr (Ext.gr (Ext.gr (Ext.refl _) E15) E21) E34) E49) W55 g53)) h)) (Nat.le_refl _)
        have hR97 := hRv0; have hN98 := hNx0; clear hRv0 hNx0; have hvl98 := (NxI.len hN98).trans (show (besQ el1 (besTo A_m k) q).length = A_m.places.length from by simp only [besQ_len, besTo_len])
        refine wp_seq_k fun K99 hK99 => ?_
        refine wp_region_lit ?_
        refine q_is rfl rfl (does_icmp (p := (q : Int)) (q := (el1.length : Int)) (.inr (.inr (.inl rfl))) (ev rfl) (ev rfl)) (by dsimp only [List.set]; try rfl) ?_
        refine wpList_nil (hK99 _ _ ?_)
        refine wp_seq_k fun K100 hK100 => ?_
        refine wp_cond_split (t := icmp .lss (q : Int) (el1.length : Int)) (ev rfl) (fun c101 => ?_) (fun c101 => ?_)
        · have c101' := c101
          (try simp only [icmp, Bool.and_eq_true, Bool.or_eq_true, Bool.and_eq_false_iff, Bool.or_eq_false_iff, Bool.not_eq_true', Bool.not_eq_false', decide_eq_true_eq, decide_eq_false_iff_not, beq_iff_eq, bne_iff_ne, beq_eq_false_iff_ne, bne_eq_false_iff_eq] at c101')
          refine wp_skip (hK100 _ _ ?_)
          refine wp_seq_k fun K102 hK102 => ?_
          refine wp_block ?_
          refine wp_seq_k fun K103 hK103 => ?_
          refine wp_region_lit ?_
          obtain ⟨el2, hel2⟩ : ∃ e, el1[q]? = some e := ⟨_, List.getElem?_eq_getElem (by omega)⟩
          refine seqd rfl rfl (does_indexSl0 (R := RI) (i := (q : Int)) (xs := el1) (e := el2) Try.underlying27 Try.sizeOf2 (ev rfl) (ev rfl) hs87 (by omega) hel2) ?_; rintro _ w90 ⟨b104, o105, _, rfl, hc107, rfl, rfl⟩
          show wpList _ _ _ _ (fr [_, _, _, _, _, _, _, _, _, _, _, _, _, _, _, _, _, _, _, _, _, _, _, _, _, _, _, _, _, _, _, _, _, _, _, _, _, _, _, _, _, _, _, _, _, _, _, _, _, _, _, _, _, _]) _
          refine q_is rfl rfl (does_load (u := (Iv el2)) (ev rfl) Try.isAgg2 (Cells.at (hc107.ext X96) 0 rfl)) (by dsimp only [List.set]; try rfl) ?_
          refine q_is rfl rfl (does_assign (u := (Iv el2)) (ev rfl)) (by dsimp only [List.set]; try rfl) ?_
          refine wpList_nil (hK103 _ _ ?_)
          have hbk := htr.2 _ (List.mem_of_getElem? hel2)
          obtain ⟨el3, hel3⟩ : ∃ e, vs0_q[el2.toNat]? = some e := ⟨_, List.getElem?_eq_getElem (by first | assumption | omega | (simp only [besQ_len, besTo_len, List.length_set, List.length_replicate]; omega) | (simp only [besQ_len, besTo_len, List.length_set, List.length_replicate]; done))⟩
          obtain ⟨xl4, hxl4⟩ : ∃ x, (besQ el1 (besTo A_m k) q)[el2.toNat]? = some x := ⟨_, List.getElem?_eq_getElem (by rw [← NxI.len hN98]; first | assumption | omega | (simp only [besQ_len, besTo_len, List.length_set, List.length_replicate]; omega) | (simp only [besQ_len, besTo_len, List.length_set, List.length_replicate]; done))⟩
          obtain ⟨gg111, hC112, hgb4, hA114⟩ := NxI.own hN98 hel3 hxl4
          obtain ⟨px4, qx4, rfl⟩ := Own.shape (hA114 0)
          have g113 : w.heap.size ≤ gg111 := Nat.le_trans (Nat.le_trans (Nat.le_trans (Nat.le_trans (Nat.le_trans (Below.size E15) (Below.size E21)) (Below.size E34)) (Below.size E49)) (Nat.le_of_eq (Eq.symm (Wr.size W55)))) hC112
          refine region_any2 [gg111] [0, 0, 0, 0, 12, 28, 0, 124, 255, 511] [0] (
            [FactW.pure [] [0] [0] true (fun v => v = (.slice (some ⟨b31, 0, none⟩) A_m.places.length A_m.places.length)),
              FactW.pure [] [0] [0] true (fun v => v = (Iv el2)),
              FactW.pure [] [] [0] true (fun v => v = (.slice (some ⟨b31, 0, none⟩) A_m.places.length A_m.places.length)),
              FactW.pure [] [] [0] true (fun v => v = (Iv el2)),
              FactW.pure [2, 3] [] [0] true (fun v => v = (Pt b31 (el2.toNat * 1))),
              FactW.pure [4] [] [0] true (fun v => v = (.slice px4 xl4.length qx4)),
              FactW.pure [] [] [0] true (fun v => v = (.slice p85 el1.length q86)),
              FactW.mem [5, 6] [] [0] [] true (fun v w' => Own RI 1 2 gg111 w90.heap.size w' v (xl4 ++ el1)) (by intro v w1 w2 hx h; exact Own.ext h RI.flat (KpL.toExt hx))]) mixed (by kernel_rfl) ?_
          obtain ⟨w108, hw110⟩ : ∃ w', w' = World.drew w90 := ⟨_, rfl⟩; rw [← hw110]; have E109 : Ext w90 w108 := by rw [hw110]; exact Ext.draw _
          clear hw110
          have X115 := Ext.gr X96 E109
          refine RW2_d _ rfl (fun v => by dsimp only [List.set]; try rfl) (fun u hu hF => ?_) (fun v116 => ?_)
          · replace hu : KpL [gg111] _ _ := hu
            clear hF
            refine doesG_un rfl ?_
            refine (does_load (u := (.slice (some ⟨b31, 0, none⟩) A_m.places.length A_m.places.length)) (ev rfl) Try.isAgg23 (Cells.at (Blk.cells ((((hB56.kl K69 (fun hc => (hL70 _ hc).elim (fun h => absurd h (ninS (Nat.ne_of_gt n52) nin0)) (fun h => absurd h (Nat.not_le_of_lt n64)))).kl K94 (fun hc => (hL95 _ hc).elim (fun h => absurd h (ninS (Nat.ne_of_gt n52) nin0)) (fun h => absurd h (Nat.not_le_of_lt n64)))).ext E109).kl hu (ninS (Nat.ne_of_lt (Nat.lt_of_lt_of_le n64 hC112)) nin0))) 0 rfl)).mono ?_; rintro _ _ ⟨rfl, rfl⟩
            exact ⟨rfl, KpL.refl _ _⟩
          refine RW2_d _ rfl (fun v => by dsimp only [List.set]; try rfl) (fun u hu hF => ?_) (fun v117 => ?_)
          · replace hu : KpL [gg111] _ _ := hu
            clear hF
            refine doesG_un rfl ?_
            refine (does_move (u := (Iv el2)) (ev rfl)).mono ?_; rintro _ _ ⟨rfl, rfl⟩
            exact ⟨rfl, KpL.refl _ _⟩
          refine RW2_d _ rfl (fun v => by dsimp only [List.set]; try rfl) (fun u hu hF => ?_) (fun v118 => ?_)
          · replace hu : KpL [] _ _ := hu
            clear hF
            refine doesG_un rfl ?_
            refine (does_load (u := (.slice (some ⟨b31, 0, none⟩) A_m.places.length A_m.places.length)) (ev rfl) Try.isAgg23 (Cells.at (Blk.cells ((((hB56.kl K69 (fun hc => (hL70 _ hc).elim (fun h => absurd h (ninS (Nat.ne_of_gt n52) nin0)) (fun h => absurd h (Nat.not_le_of_lt n64)))).kl K94 (fun hc => (hL95 _ hc).elim (fun h => absurd h (ninS (Nat.ne_of_gt n52) nin0)) (fun h => absurd h (Nat.not_le_of_lt n64)))).ext E109).ext (KpL.toExt hu))) 0 rfl)).mono ?_; rintro _ _ ⟨rfl, rfl⟩
            exact ⟨rfl, KpL.refl _ _⟩
          refine RW2_d _ rfl (fun v => by dsimp only [List.set]; try rfl) (fun u hu hF => ?_) (fun v119 => ?_)
          · replace hu : KpL [] _ _ := hu
            clear hF
            refine doesG_un rfl ?_
            refine (does_move (u := (Iv el2)) (ev rfl)).mono ?_; rintro _ _ ⟨rfl, rfl⟩
            exact ⟨rfl, KpL.refl _ _⟩
          refine RW2_d _ rfl (fun v => by dsimp only [List.set]; try rfl) (fun u hu hF => ?_) (fun v120 => ?_)
          · replace hu : KpL [] _ _ := hu
            have h34_ : v118 = (.slice (some ⟨b31, 0, none⟩) A_m.places.length A_m.places.length) := hF.1
            have h35_ : v119 = (Iv el2) := hF.2.1
            clear hF
            refine doesG_un rfl ?_
            obtain rfl := h34_
            obtain rfl := h35_
            refine (does_indexOwn (b := b31) (n := A_m.places.length) (i := el2) Try.underlying23 Try.sizeOf27 (ev rfl) (ev rfl) (by omega) (by omega)).mono ?_; rintro _ _ ⟨rfl, rfl⟩
            exact ⟨rfl, KpL.refl _ _⟩
          refine RW2_d _ rfl (fun v => by dsimp only [List.set]; try rfl) (fun u hu hF => ?_) (fun v121 => ?_)
          · replace hu : KpL [] _ _ := hu
            have h36_ : v120 = (Pt b31 (el2.toNat * 1)) := hF.1
            clear hF
            refine doesG_un rfl ?_
            obtain rfl := h36_
            refine (does_loadRowV (xs := vs0_q) (i := el2.toNat) (e := (.slice px4 xl4.length qx4)) (ev rfl) Try.isAgg27 (RowG.ext (RowG.ext hR97 RVl.flat E109) RVl.flat (KpL.toExt hu)) rfl hel3).mono ?_; rintro _ _ ⟨rfl, rfl⟩
            exact ⟨rfl, KpL.refl _ _⟩
          refine RW2_d _ rfl (fun v => by dsimp only [List.set]; try rfl) (fun u hu hF => ?_) (fun v122 => ?_)
          · replace hu : KpL [] _ _ := hu
            clear hF
            refine doesG_un rfl ?_
            refine (does_move (u := (.slice p85 el1.length q86)) (ev rfl)).mono ?_; rintro _ _ ⟨rfl, rfl⟩
            exact ⟨rfl, KpL.refl _ _⟩
          refine RW2_d _ rfl (fun v => by dsimp only [List.set]; try rfl) (fun u hu hF => ?_) (fun v123 => ?_)
          · replace hu : KpL [] _ _ := hu
            have h37_ : v121 = (.slice px4 xl4.length qx4) := hF.1
            have h38_ : v122 = (.slice p85 el1.length q86) := hF.2.1
            clear hF
            refine doesG_un rfl ?_
            obtain rfl := h37_
            obtain rfl := h38_
            refine (does_appendSA (R := RI) (k := 1) (g1 := gg111) (N0 := w90.heap.size) (xs := xl4) (ys := el1) Try.underlying27 inf2 rfl (by decide) oneRI (ev rfl) (ev rfl) (Own.klA (Own.klA hA114 RI.flat (KpL.of_ext (L := []) E109) nin0) RI.flat (KpL.of_ext (L := []) (KpL.toExt hu)) nin0) RI.flat (Sl.ext hs87 RI.mono (Ext.gr (Ext.gr X96 E109) (KpL.toExt hu))) (by first | (simp only [List.length_nil]; omega) | omega | (have hbn := besQ_most hmt hel1 (by omega) hxl4; omega)) (Nat.le_trans (Below.size E109) (KpL.size hu))).mono ?_; rintro v u' ⟨hK, hO⟩
            exact ⟨hO, hK⟩
          refine RW2_fin ?_; intro w124 E125 hP126; replace E125 : KpL [gg111] _ _ := E125
          obtain ⟨⟨⟨⟨⟨⟨⟨⟨-, q127⟩, q128⟩, -⟩, -⟩, -⟩, -⟩, -⟩, q129⟩ := hP126
          have X130 := Below.kl X115 E125 (allS g113 all0) (Nat.le_refl _)
          have q127 : v116 = (.slice (some ⟨b31, 0, none⟩) A_m.places.length A_m.places.length) := q127 rfl
          obtain rfl := q127
          have q128 : v117 = (Iv el2) := q128 rfl
          obtain rfl := q128
          have q129 : Own RI 1 2 gg111 w90.heap.size w124 v123 (xl4 ++ el1) := q129 rfl
          obtain ⟨p131, q132, rfl⟩ := Own.shape q129
          have hH133 : Hang w57.heap.size w124 (fun u => Sl RI 1 u (.slice p131 ((xl4 ++ el1).length) q132) (xl4 ++ el1)) := Own.hang q129 RI.flat (by decide) hC112 (Nat.le_trans (KpL.size K69) (KpL.size K94))
          show wpList _ _ _ _ (fr [_, _, _, _, _, _, _, _, _, _, _, _, _, _, _, _, _, _, _, _, _, _, _, _, _, _, _, _, _, _, _, _, _, _, _, _, _, _, _, _, _, _, _, _, _, _, _, _, _, _, _, _, _, _]) _
          refine q_is rfl rfl (does_indexOwn (b := b31) (n := A_m.places.length) (i := el2) Try.underlying23 Try.sizeOf27 (ev rfl) (ev rfl) (by omega) (by omega)) (by dsimp only [List.set]; try rfl) ?_
          have hN137 := NxI.put hN98 hel3 hgb4 (KpL.more (KpL.ext (KpL.refl _ _) E109) E125 (allS (.inl (by simp)) all0)) q129 (Nat.le_refl _)
          refine seqn rfl rfl (does_storeRowG (R := RVl) (k := 1) (xs := vs0_q) (i := el2.toNat) (u := (.slice p131 ((xl4 ++ el1).length) q132)) (e := (.slice p131 ((xl4 ++ el1).length) q132)) (ev rfl) (ev rfl) Try.sizeOf27 rfl rfl RVl.flat (RowG.kl (RowG.ext hR97 RVl.flat E109) RVl.flat E125 (ninS (Nat.ne_of_lt (Nat.lt_of_lt_of_le n63 hC112)) nin0)) rfl (by first | assumption | omega | (simp only [besQ_len, besTo_len, List.length_set, List.length_replicate]; omega) | (simp only [besQ_len, besTo_len, List.length_set, List.length_replicate]; done)) rfl) ?_; rintro _ w136 ⟨rfl, W134, hR135⟩
          have X138 := Below.wr X130 W134 g40
          refine wpList_nil (hK102 _ _ ?_)
          refine wp_region_lit ?_
          refine q_is rfl rfl (does_iarith (p := (q : Int)) (q := 1) (r := (q : Int) + 1) (ev rfl) (ev rfl) (.inl ⟨rfl, (in_i64 (by omega) (by omega)).symm⟩)) (by dsimp only [List.set]; try rfl) ?_
          refine q_is rfl rfl (does_move (u := (Iv ((q : Int) + 1))) (ev rfl)) (by dsimp only [List.set]; try rfl) ?_
          refine wpList_nil ?_
          have hN139 := NxI.cast (yss := ((fun (q : Nat) => besQ el1 (besTo A_m k) q) (q + 1))) (NxI.wr hN137 W134 n63) (by (try dsimp only); exact besQ_step hel2 hxl4)
          refine ⟨q + 1, ⟨fun t => (([(.agg #[(.slice p5 A_m.places.length q6), (.slice p8 A_m.tris.length q9)]), (Pt b12 0), (.slice none 0 0), (Iv 0), (Bo false), (Pt b46 0), Ud, (.slice p85 el1.length q86), Ud, (Iv el2), Ud, Ud, (.agg #[(.slice p5 A_m.places.length q6), (.slice p8 A_m.tris.length q9)]), (Bo (meshOk A_m)), (Bo (!(meshOk A_m))), (Pt b12 0), (.slice p5 A_m.places.length q6), (Iv (A_m.places.length : Int)), (.slice (some ⟨b31, 0, none⟩) A_m.places.length A_m.places.length), (Pt b12 1), (.slice p8 A_m.tris.length q9), (Iv (A_m.tris.length : Int)), (Iv (k : Int)), (Bo (icmp .lss (k : Int) (A_m.tris.length : Int))), (Pt b79 o80), (.slice p85 el1.length q86), (.slice p85 el1.length q86), (Iv (el1.length : Int)), (Iv ((q : Int) + 1)), (Bo (icmp .lss (q : Int) (el1.length : Int))), (Pt b104 o105), (Iv el2), (.slice (some ⟨b31, 0, none⟩) A_m.places.length A_m.places.length), (Iv el2), v118, v119, v120, v121, v122, (.slice p131 ((xl4 ++ el1).length) q132), (Pt b31 (el2.toNat * 1)), (Iv ((q : Int) + 1)), (u61 42), Ud, Ud, Ud, Ud, Ud, Ud, Ud, Ud, Ud, Ud, Ud] : List Value)[t]?).getD undef, ?_, (KpC.kl (KpC.kl (KpC.ext (KpC.mk K94 hL95) E109) E125 (allS (.inr (Nat.le_trans (Nat.le_refl _) hC112)) all0)) (KpL.of_wr W134) (allS (.inl (by simp)) all0)), ⟨_, hR135, hN139⟩, ?_⟩, ?_⟩
          · first | rfl | (simp only [Int.natCast_add, Int.natCast_one]; rfl)
          · (try dsimp only); omega
          · (try dsimp only); omega
        have c101' := c101
        (try simp only [icmp, Bool.and_eq_true, Bool.or_eq_true, Bool.and_eq_false_iff, Bool.or_eq_false_iff, Bool.not_eq_true', Bool.not_eq_false', decide_eq_true_eq, decide_eq_false_iff_not, beq_iff_eq, bne_iff_ne, beq_eq_false_iff_ne, bne_eq_false_iff_eq] at c101')
        refine wp_exit ?_
        refine hK77 _ _ ?_
        refine wp_region_lit ?_
        refine q_is rfl rfl (does_iarith (p := (k : Int)) (q := 1) (r := (k : Int) + 1) (ev rfl) (ev rfl) (.inl ⟨rfl, (in_i64 (by omega) (by omega)).symm⟩)) (by dsimp only [List.set]; try rfl) ?_
        refine q_is rfl rfl (does_move (u := (Iv ((k : Int) + 1))) (ev rfl)) (by dsimp only [List.set]; try rfl) ?_
        refine wpList_nil ?_
        have hN140 := NxI.cast (yss := ((fun (k : Nat) => besTo A_m k) (k + 1))) hN98 (by (try dsimp only); exact besTo_step hel1 (by omega))
        refine ⟨k + 1, ⟨fun t => (([(.agg #[(.slice p5 A_m.places.length q6), (.slice p8 A_m.tris.length q9)]), (Pt b12 0), (.slice none 0 0), (Iv 0), (Bo false), (Pt b46 0), Ud, (.slice p85 el1.length q86), Ud, (u89 9), Ud, Ud, (.agg #[(.slice p5 A_m.places.length q6), (.slice p8 A_m.tris.length q9)]), (Bo (meshOk A_m)), (Bo (!(meshOk A_m))), (Pt b12 0), (.slice p5 A_m.places.length q6), (Iv (A_m.places.length : Int)), (.slice (some ⟨b31, 0, none⟩) A_m.places.length A_m.places.length), (Pt b12 1), (.slice p8 A_m.tris.length q9), (Iv (A_m.tris.length : Int)), (Iv ((k : Int) + 1)), (Bo (icmp .lss (k : Int) (A_m.tris.length : Int))), (Pt b79 o80), (.slice p85 el1.length q86), (.slice p85 el1.length q86), (Iv (el1.length : Int)), (Iv (q : Int)), (Bo (icmp .lss (q : Int) (el1.length : Int))), (u89 30), (u89 31), (u89 32), (u89 33), (u89 34), (u89 35), (u89 36), (u89 37), (u89 38), (u89 39), (u89 40), (u89 41), (Iv ((k : Int) + 1)), Ud, Ud, Ud, Ud, Ud, Ud, Ud, Ud, Ud, Ud, Ud] : List Value)[t]?).getD undef, ?_, (KpC.kl (KpC.mk K69 hL70) K94 (fun c hc => (hL95 c hc).imp (fun h => by simpa using h) id)), ⟨_, hR97, hN140⟩, ?_⟩, ?_⟩
        · first | rfl | (simp only [Int.natCast_add, Int.natCast_one]; rfl)
        · omega
        · omega
    have c76' := c76
    (try simp only [icmp, Bool.and_eq_true, Bool.or_eq_true, Bool.and_eq_false_iff, Bool.or_eq_false_iff, Bool.not_eq_true', Bool.not_eq_false', decide_eq_true_eq, decide_eq_false_iff_not, beq_iff_eq, bne_iff_ne, beq_eq_false_iff_ne, bne_eq_false_iff_eq] at c76')
    refine wp_exit ?_
    refine hK59 _ _ ?_
    refine wp_seq_k fun K141 hK141 => ?_
    have hzl142 : (besTo A_m k).length = A_m.places.length := by first | (simp only [besQ_len, besTo_len]; done) | first | assumption | omega | (simp only [besQ_len, besTo_len, List.length_set, List.length_replicate]; omega) | (simp only [besQ_len, besTo_len, List.length_set, List.length_replicate]; done)
    have hzv143 : vs0_k.length = A_m.places.length := by rw [NxI.len hN73]; exact hzl142
    have hn146 : (besTo A_m k) = (besL A_m) := by (rw [show k = A_m.tris.length by omega]; rfl)
    have hz144 : Hang w22.heap.size w65 (fun u => Sl (RS RI 1) 1 u (.slice (some ⟨b31, 0, none⟩) A_m.places.length A_m.places.length) (besL A_m)) := Hang.castL (NxI.hang hN73 hR72 hzl142 hb32 (Nat.le_trans (Nat.le_trans (Below.size E34) (Below.size E49)) (Nat.le_of_eq (Eq.symm (Wr.size W55)))) (Nat.le_refl _) (by omega)) hn146
    have hy145 : Hang w22.heap.size w65 (fun u => Sl RVl 1 u (.slice (some ⟨b31, 0, none⟩) A_m.places.length A_m.places.length) vs0_k) := RowG.hang hR72 RVl.flat hzv143 hb32 (Nat.le_refl _) (by omega) (by decide)
    have hzl : (besL A_m).length = A_m.places.length := hn146 ▸ hzl142; have hzv : vs0_k.length = A_m.places.length := hzv143
    refine wp_region_lit ?_
    refine q_is rfl rfl (does_fieldAddr (ev rfl) fa32_0) (by dsimp only [List.set]; try rfl) ?_
    refine q_is rfl rfl (does_load (u := (.slice p5 A_m.places.length q6)) (ev rfl) Try.isAgg30 (Cells.at (Blk.cells (((((hB14.ext E21).ext E34).ext E49).wr W55 (Nat.ne_of_lt n51)).kl K69 (fun hc => (hL70 _ hc).elim (fun h => absurd h (ninS (Nat.ne_of_lt n39) nin0)) (fun h => absurd h (Nat.not_le_of_lt n62))))) 0 rfl)) (by dsimp only [List.set]; try rfl) ?_
    refine q_is rfl rfl (does_len_slice Try.underlying30 (ev rfl)) (by dsimp only [List.set]; try rfl) ?_
    refine q_is rfl rfl (does_makeFunc (u := (.func (.func 28) #[] #[(Pt b46 0)])) (evs rfl) (evs rfl) rfl) (by dsimp only [List.set]; try rfl) ?_
    refine q_is rfl rfl (does_makeFunc (u := (.func (.func 29) #[] #[(Pt b46 0)])) (evs rfl) (evs rfl) rfl) (by dsimp only [List.set]; try rfl) ?_
    refine seqd rfl rfl (does_call (args := #[(Iv (A_m.places.length : Int)), (.func (.func 28) #[] #[(Pt b46 0)]), (.func (.func 29) #[] #[(Pt b46 0)])]) cal27 (evs rfl) (c_impl_numbered A_m.places.length (.func (.func 28) #[] #[(Pt b46 0)]) (fun y => 0 ≤ y ∧ y < (besL A_m).length) (fun y => hasA (besL A_m) y) (.func (.func 29) #[] #[(Pt b46 0)]) (fun y => 0 ≤ y ∧ y < vs0_k.length) (fun y => atL (besL A_m) y) _ ⟨28, #[], #[(Pt b46 0)], rfl, cal28, fun y u hD hu' => by simpa using (c_impl_PiecesOf_1 y b46 0 (.slice (some ⟨b31, 0, none⟩) A_m.places.length A_m.places.length) (besL A_m) u (Sl.ext hz144.get (RS.mono RI.mono) hu') (Blk.cells ((hB56.kl K69 (fun hc => (hL70 _ hc).elim (fun h => absurd h (ninS (Nat.ne_of_gt n52) nin0)) (fun h => absurd h (Nat.not_le_of_lt n64)))).ext hu')) (by first | exact hD | omega))⟩ ⟨29, #[], #[(Pt b46 0)], rfl, cal29, fun y u hD hu' => Gives.mono (c_impl_PiecesOf_2 y b46 0 (.slice (some ⟨b31, 0, none⟩) A_m.places.length A_m.places.length) vs0_k u (Sl.ext hy145.get RVl.mono hu') (Blk.cells ((hB56.kl K69 (fun hc => (hL70 _ hc).elim (fun h => absurd h (ninS (Nat.ne_of_gt n52) nin0)) (fun h => absurd h (Nat.not_le_of_lt n64)))).ext hu')) (by first | exact hD | omega)) (fun v w' _ h => ⟨_, h, Sl.valat hz144.get hy145.get hD⟩)⟩ (by omega) (by exact grI hmt) (by exact fun y hy => (by (try dsimp only); omega)) (by exact fun y hy _ => (by (try dsimp only); omega)) (by exact fun y _ => Nat.le_trans (besL_most hmt y) (by decide)))) ?_; rintro _ w148 ⟨E147, ⟨y150, Lw151, rfl, hh149, hw152⟩⟩
    have X153 := Ext.gr X71 E147
    have n154 : b12 < w65.heap.size := Blk.lt (((((hB14.ext E21).ext E34).ext E49).wr W55 (Nat.ne_of_lt n51)).kl K69 (fun hc => (hL70 _ hc).elim (fun h => absurd h (ninS (Nat.ne_of_lt n39) nin0)) (fun h => absurd h (Nat.not_le_of_lt n62))))
    have n155 : b46 < w65.heap.size := Blk.lt (hB56.kl K69 (fun hc => (hL70 _ hc).elim (fun h => absurd h (ninS (Nat.ne_of_gt n52) nin0)) (fun h => absurd h (Nat.not_le_of_lt n64))))
    obtain ⟨p156, q157, rfl⟩ := Sl.shape hh149.get
    have hw158 : WL 1 w65.heap.size w148 Lw151 (.slice p156 (((numTo A_m.places.length (fun y => hasA (besL A_m) y) (fun y => atL (besL A_m) y) A_m.places.length).1).length) q157) ((numTo A_m.places.length (fun y => hasA (besL A_m) y) (fun y => atL (besL A_m) y) A_m.places.length).1).length := hw152
    show wpList _ _ _ _ (fr [_, _, _, _, _, _, _, _, _, _, _, _, _, _, _, _, _, _, _, _, _, _, _, _, _, _, _, _, _, _, _, _, _, _, _, _, _, _, _, _, _, _, _, _, _, _, _, _, _, _, _, _, _, _]) _
    refine q_is rfl rfl (does_move (u := (.tuple #[(.slice p156 (((numTo A_m.places.length (fun y => hasA (besL A_m) y) (fun y => atL (besL A_m) y) A_m.places.length).1).length) q157), (Iv ((numTo A_m.places.length (fun y => hasA (besL A_m) y) (fun y => atL (besL A_m) y) A_m.places.length).2))])) (ev rfl)) (by dsimp only [List.set]; try rfl) ?_
    refine q_is rfl rfl (does_extract (vs := #[(.slice p156 (((numTo A_m.places.length (fun y => hasA (besL A_m) y) (fun y => atL (besL A_m) y) A_m.places.length).1).length) q157), (Iv ((numTo A_m.places.length (fun y => hasA (besL A_m) y) (fun y => atL (besL A_m) y) A_m.places.length).2))]) (u := (.slice p156 (((numTo A_m.places.length (fun y => hasA (besL A_m) y) (fun y => atL (besL A_m) y) A_m.places.length).1).length) q157)) (ev rfl) rfl) (by dsimp only [List.set]; try rfl) ?_
    refine q_is rfl rfl (does_extract (vs := #[(.slice p156 (((numTo A_m.places.length (fun y => hasA (besL A_m) y) (fun y => atL (besL A_m) y) A_m.places.length).1).length) q157), (Iv ((numTo A_m.places.length (fun y => hasA (besL A_m) y) (fun y => atL (besL A_m) y) A_m.places.length).2))]) (u := (Iv ((numTo A_m.places.length (fun y => hasA (besL A_m) y) (fun y => atL (besL A_m) y) A_m.places.length).2))) (ev rfl) rfl) (by dsimp only [List.set]; try rfl) ?_
    refine q_is rfl rfl (does_assign (u := (.slice p156 (((numTo A_m.places.length (fun y => hasA (besL A_m) y) (fun y => atL (besL A_m) y) A_m.places.length).1).length) q157)) (ev rfl)) (by dsimp only [List.set]; try rfl) ?_
    refine q_is rfl rfl (does_assign (u := (Iv ((numTo A_m.places.length (fun y => hasA (besL A_m) y) (fun y => atL (besL A_m) y) A_m.places.length).2))) (ev rfl)) (by dsimp only [List.set]; try rfl) ?_
    refine wpList_nil (hK141 _ _ ?_)
    refine wp_seq_k fun K159 hK159 => ?_
    refine wp_region_lit ?_
    refine q_is rfl rfl (does_move (u := (.slice p156 (((numTo A_m.places.length (fun y => hasA (besL A_m) y) (fun y => atL (besL A_m) y) A_m.places.length).1).length) q157)) (ev rfl)) (by dsimp only [List.set]; try rfl) ?_
    refine q_is rfl rfl (does_move (u := (Iv ((numTo A_m.places.length (fun y => hasA (besL A_m) y) (fun y => atL (besL A_m) y) A_m.places.length).2))) (ev rfl)) (by dsimp only [List.set]; try rfl) ?_
    refine q_is rfl rfl (does_assign (u := (.slice p156 (((numTo A_m.places.length (fun y => hasA (besL A_m) y) (fun y => atL (besL A_m) y) A_m.places.length).1).length) q157)) (ev rfl)) (by dsimp only [List.set]; try rfl) ?_
    refine q_is rfl rfl (does_assign (u := (Iv ((numTo A_m.places.length (fun y => hasA (besL A_m) y) (fun y => atL (besL A_m) y) A_m.places.length).2))) (ev rfl)) (by dsimp only [List.set]; try rfl) ?_
    refine q_is rfl rfl (does_assign (u := (Bo true)) (ev rfl)) (by dsimp only [List.set]; try rfl) ?_
    refine wpList_nil (hK159 _ _ ?_)
    refine wp_ret ?_
    refine ret_val (v := (.tuple #[(.slice p156 (((numTo A_m.places.length (fun y => hasA (besL A_m) y) (fun y => atL (besL A_m) y) A_m.places.length).1).length) q157), (Iv ((numTo A_m.places.length (fun y => hasA (besL A_m) y) (fun y => atL (besL A_m) y) A_m.places.length).2)), (Bo true)])) (res_TTT rfl (slot rfl) (slot rfl) (slot rfl)) X153 ?_
    have x160 : ((pcsM A_m).2 : Int) = ((numTo A_m.places.length (fun y => hasA (besL A_m) y) (fun y => atL (besL A_m) y) A_m.places.length).2) := by first | exact hmf | exact hmt | (rw [pcsM_f hmf]; done) | (rw [pcsM_f hmf]; rfl) | (rw [pcsM_t hmt]; done) | (rw [pcsM_t hmt]; rfl) | (rw [pcsM_s hmt, show k = A_m.places.length by omega]; done) | (rw [pcsM_s hmt, show k = A_m.places.length by omega])
    have x161 : (meshOk A_m) = true := by first | exact hmf | exact hmt | (rw [pcsM_f hmf]; done) | (rw [pcsM_f hmf]; rfl) | (rw [pcsM_t hmt]; done) | (rw [pcsM_t hmt]; rfl) | (rw [pcsM_s hmt, show k = A_m.places.length by omega]; done) | (rw [pcsM_s hmt, show k = A_m.places.length by omega])
    have x162 : ((numTo A_m.places.length (fun y => hasA (besL A_m) y) (fun y => atL (besL A_m) y) A_m.places.length).1) = ((pcsM A_m).1) := by first | exact hmf | exact hmt | (rw [pcsM_f hmf]; done) | (rw [pcsM_f hmf]; rfl) | (rw [pcsM_t hmt]; done) | (rw [pcsM_t hmt]; rfl) | (rw [pcsM_s hmt, show k = A_m.places.length by omega]; done) | (rw [pcsM_s hmt, show k = A_m.places.length by omega])
    have x163 : ((numTo A_m.places.length (fun y => hasA (besL A_m) y) (fun y => atL (besL A_m) y) A_m.places.length).1) = ((pcsM A_m).1) := by first | exact hmf | exact hmt | (rw [pcsM_f hmf]; done) | (rw [pcsM_f hmf]; rfl) | (rw [pcsM_t hmt]; done) | (rw [pcsM_t hmt]; rfl) | (rw [pcsM_s hmt, show k = A_m.places.length by omega]; done) | (rw [pcsM_s hmt, show k = A_m.places.length by omega])
    exact ⟨(.slice p156 (((numTo A_m.places.length (fun y => hasA (besL A_m) y) (fun y => atL (besL A_m) y) A_m.places.length).1).length) q157), Lw151, (by first | with_reducible rfl | rw [x160, x161] | rw [x161, x160] | rfl), (Hang.castL (hh149.le (Below.size (Below.kl (Below.wr (Ext.gr (Ext.gr (Ext.gr (Ext.gr (Ext.refl _) E15) E21) E34) E49) W55 g53) K69 (fun c hc => (hL70 c hc).elim ((allS g40 all0) c) (fun h => Nat.le_trans (Below.size (Below.wr (Ext.gr (Ext.gr (Ext.gr (Ext.gr (Ext.refl _) E15) E21) E34) E49) W55 g53)) h)) (Nat.le_refl _)))) x162), (WL.cast (hw158.le (Below.size (Below.kl (Below.wr (Ext.gr (Ext.gr (Ext.gr (Ext.gr (Ext.refl _) E15) E21) E34) E49) W55 g53) K69 (fun c hc => (hL70 c hc).elim ((allS g40 all0) c) (fun h => Nat.le_trans (Below.size (Below.wr (Ext.gr (Ext.gr (Ext.gr (Ext.gr (Ext.refl _) E15) E21) E34) E49) W55 g53)) h)) (Nat.le_refl _)))) (congrArg List.length x163))⟩

/- laws.eqInt64S -/
theorem c_laws_eqInt64S (a : Value) (L_a : List Int) (b : Value) (L_b : List Int) (w : World) (hv_a : Sl RI 1 w a L_a) (hv_b : Sl RI 1 w b L_b) : Gives Try.prog 9 #[a, b] w (fun v w' => v = (Bo (sameX eqI L_a L_b))) := by
  have hlen_a := Sl.len hv_a; obtain ⟨p_a, q_a, rfl⟩ := Sl.shape hv_a
  have hlen_b := Sl.len hv_b; obtain ⟨p_b, q_b, rfl⟩ := Sl.shape hv_b
  refine enter [(.slice p_a L_a.length q_a), (.slice p_b L_b.length q_b), Ud, Ud, Ud, Ud, Ud, Ud, Ud, Ud, Ud, Ud, Ud, Ud, Ud, Ud, Ud, Ud, Ud, Ud, Ud, Ud, Ud, Ud, Ud, Ud] Try.func9 rfl Try.ntmps9 rfl ?_
  refine wp_seq_k fun K1 hK1 => ?_
  refine wp_region_lit ?_
  refine q_is rfl rfl (does_assign (u := (Bo false)) (ev rfl)) (by dsimp only [List.set]; try rfl) ?_
  refine wpList_nil (hK1 _ _ ?_)
  refine wp_seq_k fun K2 hK2 => ?_
  refine wp_seq_k fun K3 hK3 => ?_
  refine wp_region_lit ?_
  refine q_is rfl rfl (does_move (u := (.slice p_a L_a.length q_a)) (ev rfl)) (by dsimp only [List.set]; try rfl) ?_
  refine q_is rfl rfl (does_len_slice Try.underlying27 (ev rfl)) (by dsimp only [List.set]; try rfl) ?_
  refine q_is rfl rfl (does_move (u := (.slice p_b L_b.length q_b)) (ev rfl)) (by dsimp only [List.set]; try rfl) ?_
  refine q_is rfl rfl (does_len_slice Try.underlying27 (ev rfl)) (by dsimp only [List.set]; try rfl) ?_
  refine q_is rfl rfl (does_icmp (p := (L_a.length : Int)) (q := (L_b.length : Int)) (.inr (.inl rfl)) (ev rfl) (ev rfl)) (by dsimp only [List.set]; try rfl) ?_
  refine wpList_nil (hK3 _ _ ?_)
  refine wp_cond_split (t := icmp .neq (L_a.length : Int) (L_b.length : Int)) (ev rfl) (fun c4 => ?_) (fun c4 => ?_)
  · have c4' := c4
    (try simp only [icmp, Bool.and_eq_true, Bool.or_eq_true, Bool.and_eq_false_iff, Bool.or_eq_false_iff, Bool.not_eq_true', Bool.not_eq_false', decide_eq_true_eq, decide_eq_false_iff_not, beq_iff_eq, bne_iff_ne, beq_eq_false_iff_ne, bne_eq_false_iff_eq] at c4')
    refine wp_seq_k fun K5 hK5 => ?_
    refine wp_region_lit ?_
    refine q_is rfl rfl (does_assign (u := (Bo false)) (ev rfl)) (by dsimp only [List.set]; try rfl) ?_
    refine wpList_nil (hK5 _ _ ?_)
    refine wp_ret ?_
    dsimp only [Exit.then, Exit.inBlock]
    refine ret_val (v := (Bo false)) (res_T rfl (slot rfl)) (Ext.refl w) ?_
    have x6 : (sameX eqI L_a L_b) = false := by first | exact (sameX_len (by omega)) | exact (sameX_not (by omega) (by assumption) (by assumption) (by simp only [eqI, icmp] at *; simp_all)) | exact (sameX_all (by omega) (by omega) hs)
    exact (by first | with_reducible rfl | rw [x6] | rfl)
  have c4' := c4
  (try simp only [icmp, Bool.and_eq_true, Bool.or_eq_true, Bool.and_eq_false_iff, Bool.or_eq_false_iff, Bool.not_eq_true', Bool.not_eq_false', decide_eq_true_eq, decide_eq_false_iff_not, beq_iff_eq, bne_iff_ne, beq_eq_false_iff_ne, bne_eq_false_iff_eq] at c4')
  refine wp_skip (hK2 _ _ ?_)
  refine wp_seq_k fun K7 hK7 => ?_
  refine wp_seq_k fun K8 hK8 => ?_
  refine wp_region_lit ?_
  refine q_is rfl rfl (does_assign (u := (Iv 0)) (ev rfl)) (by dsimp only [List.set]; try rfl) ?_
  refine wpList_nil (hK8 _ _ ?_)
  refine wp_block ?_
  refine loop_ghost (σ := Nat) (fun k a w' => ∃ u9 : Nat → Value, a = fr [(.slice p_a L_a.length q_a), (.slice p_b L_b.length q_b), Ud, Ud, (u9 4), (Iv (k : Int)), (.slice p_a L_a.length q_a), (Iv (L_a.length : Int)), (.slice p_b L_b.length q_b), (Iv (L_b.length : Int)), (Bo (icmp .neq (L_a.length : Int) (L_b.length : Int))), (u9 11), (u9 12), (u9 13), (u9 14), (u9 15), (u9 16), (u9 17), (u9 18), (u9 19), (u9 20), (u9 21), (u9 22), (u9 23), (u9 24), (u9 25)] ∧ Ext w w' ∧ (k ≤ L_a.length ∧ SameXTo eqI L_a L_b k)) (fun k => L_a.length - k) 0 ?_ ?_
  · refine ⟨fun t => (([(.slice p_a L_a.length q_a), (.slice p_b L_b.length q_b), Ud, Ud, (Bo false), (Iv 0), (.slice p_a L_a.length q_a), (Iv (L_a.length : Int)), (.slice p_b L_b.length q_b), (Iv (L_b.length : Int)), (Bo (icmp .neq (L_a.length : Int) (L_b.length : Int))), Ud, Ud, Ud, Ud, Ud, Ud, Ud, Ud, Ud, Ud, Ud, Ud, Ud, Ud, Ud] : List Value)[t]?).getD undef, rfl, Ext.refl _, ?_⟩
    exact ⟨Nat.zero_le _, SameXTo.zero⟩
  · rintro k a w10 ⟨u9, rfl, E11, ⟨hk, hs⟩⟩
    have X13 := Ext.gr (Ext.refl w) E11
    refine wp_seq_k fun K14 hK14 => ?_
    refine wp_seq_k fun K15 hK15 => ?_
    refine wp_region_lit ?_
    refine q_is rfl rfl (does_move (u := (Iv (k : Int))) (ev rfl)) (by dsimp only [List.set]; try rfl) ?_
    refine q_is rfl rfl (does_move (u := (.slice p_a L_a.length q_a)) (ev rfl)) (by dsimp only [List.set]; try rfl) ?_
    refine q_is rfl rfl (does_len_slice Try.underlying27 (ev rfl)) (by dsimp only [List.set]; try rfl) ?_
    refine q_is rfl rfl (does_icmp (p := (k : Int)) (q := (L_a.length : Int)) (.inr (.inr (.inl rfl))) (ev rfl) (ev rfl)) (by dsimp only [List.set]; try rfl) ?_
    refine wpList_nil (hK15 _ _ ?_)
    refine wp_cond_split (t := icmp .lss (k : Int) (L_a.length : Int)) (ev rfl) (fun c16 => ?_) (fun c16 => ?_)
    · have c16' := c16
      (try simp only [icmp, Bool.and_eq_true, Bool.or_eq_true, Bool.and_eq_false_iff, Bool.or_eq_false_iff, Bool.not_eq_true', Bool.not_eq_false', decide_eq_true_eq, decide_eq_false_iff_not, beq_iff_eq, bne_iff_ne, beq_eq_false_iff_ne, bne_eq_false_iff_eq] at c16')
      refine wp_skip (hK14 _ _ ?_)
      refine wp_seq_k fun K17 hK17 => ?_
      refine wp_block ?_
      refine wp_seq_k fun K18 hK18 => ?_
      obtain ⟨el1, hel1⟩ : ∃ e, L_a[k]? = some e := ⟨_, List.getElem?_eq_getElem (by omega)⟩
      obtain ⟨el2, hel2⟩ : ∃ e, L_b[k]? = some e := ⟨_, List.getElem?_eq_getElem (by omega)⟩
      refine region_draw (
        [Fact.pure [] (fun v => v = (.slice p_a L_a.length q_a)),
    Fact.pure [] (fun v => v = (Iv (k : Int))),
    Fact.mem [17, 18] (fun v w' => PtrR RI w' v el1) (by intro v w1 w2 hx h; exact h.ext RI.mono hx),
    Fact.pure [19] (fun v => v = (Iv el1)),
    Fact.pure [] (fun v => v = (.slice p_b L_b.length q_b)),
    Fact.pure [] (fun v => v = (Iv (k : Int))),
    Fact.mem [21, 22] (fun v w' => PtrR RI w' v el2) (by intro v w1 w2 hx h; exact h.ext RI.mono hx),
    Fact.pure [23] (fun v => v = (Iv el2)),
    Fact.pure [20, 24] (fun v => v = (Bo (icmp .neq el1 el2)))]) mixed (by kernel_rfl) (by intro _ _ d _ _ h; cases d <;> exact h) ?_
      obtain ⟨w19, hw21⟩ : ∃ w', w' = World.drew w10 := ⟨_, rfl⟩; rw [← hw21]; have E20 : Ext w10 w19 := by rw [hw21]; exact Ext.draw _
      clear hw21
      have X22 := Ext.gr X13 E20
      refine RW_d _ rfl (fun v => by dsimp only [List.set]; try rfl) (fun u hu hF => ?_) (fun v23 => ?_)
      · clear hF
        refine doesG_un rfl ?_
        refine (does_move (u := (.slice p_a L_a.length q_a)) (ev rfl)).mono ?_; rintro _ _ ⟨rfl, rfl⟩
        exact ⟨rfl, Ext.refl _⟩
      refine RW_d _ rfl (fun v => by dsimp only [List.set]; try rfl) (fun u hu hF => ?_) (fun v24 => ?_)
      · clear hF
        refine doesG_un rfl ?_
        refine (does_move (u := (Iv (k : Int))) (ev rfl)).mono ?_; rintro _ _ ⟨rfl, rfl⟩
        exact ⟨rfl, Ext.refl _⟩
      refine RW_d _ rfl (fun v => by dsimp only [List.set]; try rfl) (fun u hu hF => ?_) (fun v25 => ?_)
      · have h17_ : v23 = (.slice p_a L_a.length q_a) := hF.1
        have h18_ : v24 = (Iv (k : Int)) := hF.2.1
        clear hF
        refine doesG_un rfl ?_
        obtain rfl := h17_
        obtain rfl := h18_
        refine (does_indexSl (R := RI) (i := (k : Int)) (xs := L_a) (e := el1) Try.underlying27 Try.sizeOf2 (ev rfl) (ev rfl) (Sl.ext (Sl.ext hv_a RI.mono (Ext.gr X13 E20)) RI.mono hu) (by omega) hel1).mono ?_; rintro v u' ⟨b, of, cs, hv, hc, hR, hu'⟩; subst hu'
        exact ⟨⟨b, of, cs, hv, hc, hR⟩, Ext.refl _⟩
      refine RW_d _ rfl (fun v => by dsimp only [List.set]; try rfl) (fun u hu hF => ?_) (fun v26 => ?_)
      · have h19_ : PtrR RI u v25 el1 := hF.1
        clear hF
        refine doesG_un rfl ?_
        obtain ⟨b19_, o19_, _, rfl, hc19_, rfl⟩ := h19_
        refine (does_load (u := (Iv el1)) (ev rfl) Try.isAgg2 (Cells.at hc19_ 0 rfl)).mono ?_; rintro _ _ ⟨rfl, rfl⟩
        exact ⟨rfl, Ext.refl _⟩
      refine RW_d _ rfl (fun v => by dsimp only [List.set]; try rfl) (fun u hu hF => ?_) (fun v27 => ?_)
      · clear hF
        refine doesG_un rfl ?_
        refine (does_move (u := (.slice p_b L_b.length q_b)) (ev rfl)).mono ?_; rintro _ _ ⟨rfl, rfl⟩
        exact ⟨rfl, Ext.refl _⟩
      refine RW_d _ rfl (fun v => by dsimp only [List.set]; try rfl) (fun u hu hF => ?_) (fun v28 => ?_)
      · clear hF
        refine doesG_un rfl ?_
        refine (does_move (u := (Iv (k : Int))) (ev rfl)).mono ?_; rintro _ _ ⟨rfl, rfl⟩
        exact ⟨rfl, Ext.refl _⟩
      refine RW_d _ rfl (fun v => by dsimp only [List.set]; try rfl) (fun u hu hF => ?_) (fun v29 => ?_)
      · have h21_ : v27 = (.slice p_b L_b.length q_b) := hF.1
        have h22_ : v28 = (Iv (k : Int)) := hF.2.1
        clear hF
        refine doesG_un rfl ?_
        obtain rfl := h21_
        obtain rfl := h22_
        refine (does_indexSl (R := RI) (i := (k : Int)) (xs := L_b) (e := el2) Try.underlying27 Try.sizeOf2 (ev rfl) (ev rfl) (Sl.ext (Sl.ext hv_b RI.mono (Ext.gr X13 E20)) RI.mono hu) (by omega) hel2).mono ?_; rintro v u' ⟨b, of, cs, hv, hc, hR, hu'⟩; subst hu'
        exact ⟨⟨b, of, cs, hv, hc, hR⟩, Ext.refl _⟩
      refine RW_d _ rfl (fun v => by dsimp only [List.set]; try rfl) (fun u hu hF => ?_) (fun v30 => ?_)
      · have h23_ : PtrR RI u v29 el2 := hF.1
        clear hF
        refine doesG_un rfl ?_
        obtain ⟨b23_, o23_, _, rfl, hc23_, rfl⟩ := h23_
        refine (does_load (u := (Iv el2)) (ev rfl) Try.isAgg2 (Cells.at hc23_ 0 rfl)).mono ?_; rintro _ _ ⟨rfl, rfl⟩
        exact ⟨rfl, Ext.refl _⟩
      refine RW_d _ rfl (fun v => by dsimp only [List.set]; try rfl) (fun u hu hF => ?_) (fun v31 => ?_)
      · have h20_ : v26 = (Iv el1) := hF.1
        have h24_ : v30 = (Iv el2) := hF.2.1
        clear hF
        refine doesG_un rfl ?_
        obtain rfl := h20_
        obtain rfl := h24_
        refine (does_icmp (p := el1) (q := el2) (.inr (.inl rfl)) (ev rfl) (ev rfl)).mono ?_; rintro _ _ ⟨rfl, rfl⟩
        exact ⟨rfl, Ext.refl _⟩
      refine RW_fin ?_; intro w32 E33 hP34
      obtain ⟨⟨⟨⟨⟨⟨⟨⟨⟨-, -⟩, -⟩, -⟩, -⟩, -⟩, -⟩, -⟩, -⟩, q35⟩ := hP34
      have X36 := Ext.gr X22 E33
      have q35 : v31 = (Bo (icmp .neq el1 el2)) := q35
      obtain rfl := q35
      show wpList _ _ _ _ (fr [_, _, _, _, _, _, _, _, _, _, _, _, _, _, _, _, _, _, _, _, _, _, _, _, _, _]) _
      refine wpList_nil (hK18 _ _ ?_)
      refine wp_cond_split (t := icmp .neq el1 el2) (ev rfl) (fun c37 => ?_) (fun c37 => ?_)
      · have c37' := c37
        (try simp only [icmp, Bool.and_eq_true, Bool.or_eq_true, Bool.and_eq_false_iff, Bool.or_eq_false_iff, Bool.not_eq_true', Bool.not_eq_false', decide_eq_true_eq, decide_eq_false_iff_not, beq_iff_eq, bne_iff_ne, beq_eq_false_iff_ne, bne_eq_false_iff_eq] at c37')
        refine wp_seq_k fun K38 hK38 => ?_
        refine wp_region_lit ?_
        refine q_is rfl rfl (does_assign (u := (Bo false)) (ev rfl)) (by dsimp only [List.set]; try rfl) ?_
        refine wpList_nil (hK38 _ _ ?_)
        refine wp_ret ?_
        dsimp only [Exit.then, Exit.inBlock]
        refine ret_val (v := (Bo false)) (res_T rfl (slot rfl)) X36 ?_
        try simp only [hel1, hel2] at c4 c16 c37
        have x39 : (sameX eqI L_a L_b) = false := by first | exact (sameX_len (by omega)) | exact (sameX_not (by omega) (by assumption) (by assumption) (by simp only [eqI, icmp] at *; simp_all)) | exact (sameX_all (by omega) (by omega) hs)
        exact (by first | with_reducible rfl | rw [x39] | rfl)
      have c37' := c37
      (try simp only [icmp, Bool.and_eq_true, Bool.or_eq_true, Bool.and_eq_false_iff, Bool.or_eq_false_iff, Bool.not_eq_true', Bool.not_eq_false', decide_eq_true_eq, decide_eq_false_iff_not, beq_iff_eq, bne_iff_ne, beq_eq_false_iff_ne, bne_eq_false_iff_eq] at c37')
      refine wp_skip (hK17 _ _ ?_)
      refine wp_region_lit ?_
      refine q_is rfl rfl (does_move (u := (Iv (k : Int))) (ev rfl)) (by dsimp only [List.set]; try rfl) ?_
      refine q_is rfl rfl (does_iarith (p := (k : Int)) (q := 1) (r := (k : Int) + 1) (ev rfl) (ev rfl) (.inl ⟨rfl, (in_i64 (by omega) (by omega)).symm⟩)) (by dsimp only [List.set]; try rfl) ?_
      refine q_is rfl rfl (does_assign (u := (Iv ((k : Int) + 1))) (ev rfl)) (by dsimp only [List.set]; try rfl) ?_
      refine wpList_nil ?_
      refine ⟨k + 1, ⟨fun t => (([(.slice p_a L_a.length q_a), (.slice p_b L_b.length q_b), Ud, Ud, (u9 4), (Iv ((k : Int) + 1)), (.slice p_a L_a.length q_a), (Iv (L_a.length : Int)), (.slice p_b L_b.length q_b), (Iv (L_b.length : Int)), (Bo (icmp .neq (L_a.length : Int) (L_b.length : Int))), (Iv (k : Int)), (.slice p_a L_a.length q_a), (Iv (L_a.length : Int)), (Bo (icmp .lss (k : Int) (L_a.length : Int))), (Iv (k : Int)), (Iv ((k : Int) + 1)), v23, v24, v25, v26, v27, v28, v29, v30, (Bo (icmp .neq el1 el2))] : List Value)[t]?).getD undef, ?_, (Ext.gr (Ext.gr E11 E20) E33), ?_⟩, ?_⟩
      · first | rfl | (simp only [Int.natCast_add, Int.natCast_one]; rfl)
      · exact ⟨by omega, SameXTo.step hs (by assumption) (by assumption) (by simp only [eqI, icmp] at *; simp_all)⟩
      · omega
    have c16' := c16
    (try simp only [icmp, Bool.and_eq_true, Bool.or_eq_true, Bool.and_eq_false_iff, Bool.or_eq_false_iff, Bool.not_eq_true', Bool.not_eq_false', decide_eq_true_eq, decide_eq_false_iff_not, beq_iff_eq, bne_iff_ne, beq_eq_false_iff_ne, bne_eq_false_iff_eq] at c16')
    refine wp_exit ?_
    refine hK7 _ _ ?_
    refine wp_seq_k fun K40 hK40 => ?_
    refine wp_region_lit ?_
    refine q_is rfl rfl (does_assign (u := (Bo true)) (ev rfl)) (by dsimp only [List.set]; try rfl) ?_
    refine wpList_nil (hK40 _ _ ?_)
    refine wp_ret ?_
    refine ret_val (v := (Bo true)) (res_T rfl (slot rfl)) X13 ?_
    have x41 : (sameX eqI L_a L_b) = true := by first | exact (sameX_len (by omega)) | exact (sameX_not (by omega) (by assumption) (by assumption) (by simp only [eqI, icmp] at *; simp_all)) | exact (sameX_all (by omega) (by omega) hs)
    exact (by first | with_reducible rfl | rw [x41] | rfl)

/- laws.sameFloat -/
theorem c_laws_sameFloat (x : Nat) (y : Nat) (w : World) : Gives Try.prog 43 #[(Fd x), (Fd y)] w (fun v w' => v = (Bo (sameF (cf .f64 x) (cf .f64 y)))) := by
  refine enter [(Fd x), (Fd y), Ud, Ud, Ud, Ud, Ud, Ud, Ud, Ud, Ud, Ud, Ud, Ud, Ud, Ud, Ud, Ud, Ud, Ud, Ud, Ud, Ud, Ud, Ud, Ud, Ud, Ud, Ud, Ud, Ud, Ud, Ud, Ud, Ud, Ud, Ud] Try.func43 rfl Try.ntmps43 rfl ?_
  refine wp_seq_k fun K1 hK1 => ?_
  refine wp_region_lit ?_
  refine q_is rfl rfl (does_assign (u := (Bo false)) (ev rfl)) (by dsimp only [List.set]; try rfl) ?_
  refine wpList_nil (hK1 _ _ ?_)
  refine wp_seq_k fun K2 hK2 => ?_
  refine wp_seq_k fun K3 hK3 => ?_
  obtain ⟨β1, hβ1⟩ : ∃ b : Bool, b = (fcmp .neq (ford .f64 (cf .f64 x) (cf .f64 x))) := ⟨_, rfl⟩
  obtain ⟨β2, hβ2⟩ : ∃ b : Bool, b = (fcmp .neq (ford .f64 (cf .f64 y) (cf .f64 y))) := ⟨_, rfl⟩
  refine region_text (
    [Fact.pure [] (fun v => v = (Fd x)),
    Fact.pure [] (fun v => v = (Fd x)),
    Fact.pure [5, 6] (fun v => v = (Bo β1)),
    Fact.pure [7] (fun v => v = (Bo β1)),
    Fact.pure [8] (fun v => β1 = false → v = (Fd y)),
    Fact.pure [8] (fun v => β1 = false → v = (Fd y)),
    Fact.pure [9, 10, 8] (fun v => β1 = false → v = (Bo β2)),
    Fact.pure [8, 11] (fun v => v = (Bo (β1 || β2)))]) (by simp [Fact.pure, Fact.mem]) ?_
  refine RW_d _ rfl (fun v => by dsimp only [List.set]; try rfl) (fun u hu hF => ?_) (fun v4 => ?_)
  · clear hF
    refine doesG_un rfl ?_
    refine (does_move (u := (Fd x)) (ev rfl)).mono ?_; rintro _ _ ⟨rfl, rfl⟩
    exact ⟨rfl, Ext.refl _⟩
  refine RW_d _ rfl (fun v => by dsimp only [List.set]; try rfl) (fun u hu hF => ?_) (fun v5 => ?_)
  · clear hF
    refine doesG_un rfl ?_
    refine (does_move (u := (Fd x)) (ev rfl)).mono ?_; rintro _ _ ⟨rfl, rfl⟩
    exact ⟨rfl, Ext.refl _⟩
  refine RW_d _ rfl (fun v => by dsimp only [List.set]; try rfl) (fun u hu hF => ?_) (fun v6 => ?_)
  · have h5_ : v4 = (Fd x) := hF.1
    have h6_ : v5 = (Fd x) := hF.2.1
    clear hF
    refine doesG_un rfl ?_
    obtain rfl := h5_
    obtain rfl := h6_
    refine (does_fcmp (.inr (.inl rfl)) (ev rfl) (ev rfl)).mono ?_; rintro _ _ ⟨rfl, rfl⟩
    exact ⟨(by first | rfl | (show _ = _; simp only [hβ1]; done) | (show _ = _; simp only [hβ1]; rfl)), Ext.refl _⟩
  refine RW_d _ rfl (fun v => by dsimp only [List.set]; try rfl) (fun u hu hF => ?_) (fun v7 => ?_)
  · have h7_ : v6 = (Bo β1) := hF.1
    clear hF
    refine doesG_un rfl ?_
    obtain rfl := h7_
    refine (does_move (u := (Bo β1)) (ev rfl)).mono ?_; rintro _ _ ⟨rfl, rfl⟩
    exact ⟨rfl, Ext.refl _⟩
  refine RW_d _ rfl (fun v => by dsimp only [List.set]; try rfl) (fun u hu hF => ?_) (fun v8 => ?_)
  · have h8_ : v7 = (Bo β1) := hF.1
    clear hF
    obtain rfl := h8_
    refine doesG_g (b := β1) rfl (yld rfl rfl) (fun hg1 => ?_) (fun hc => ⟨fun hg1 => absurd hg1 hc, Ext.refl _⟩)
    refine (does_move (u := (Fd y)) (ev rfl)).mono ?_; rintro _ _ ⟨rfl, rfl⟩
    exact ⟨fun _ => rfl, Ext.refl _⟩
  refine RW_d _ rfl (fun v => by dsimp only [List.set]; try rfl) (fun u hu hF => ?_) (fun v9 => ?_)
  · have h8_ : v7 = (Bo β1) := hF.1
    clear hF
    obtain rfl := h8_
    refine doesG_g (b := β1) rfl (yld rfl rfl) (fun hg1 => ?_) (fun hc => ⟨fun hg1 => absurd hg1 hc, Ext.refl _⟩)
    refine (does_move (u := (Fd y)) (ev rfl)).mono ?_; rintro _ _ ⟨rfl, rfl⟩
    exact ⟨fun _ => rfl, Ext.refl _⟩
  refine RW_d _ rfl (fun v => by dsimp only [List.set]; try rfl) (fun u hu hF => ?_) (fun v10 => ?_)
  · have h9_ : β1 = false → v8 = (Fd y) := hF.1
    have h10_ : β1 = false → v9 = (Fd y) := hF.2.1
    have h8_ : v7 = (Bo β1) := hF.2.2.1
    clear hF
    obtain rfl := h8_
    refine doesG_g (b := β1) rfl (yld rfl rfl) (fun hg1 => ?_) (fun hc => ⟨fun hg1 => absurd hg1 hc, Ext.refl _⟩)
    obtain rfl := h9_ hg1
    obtain rfl := h10_ hg1
    refine (does_fcmp (.inr (.inl rfl)) (ev rfl) (ev rfl)).mono ?_; rintro _ _ ⟨rfl, rfl⟩
    exact ⟨fun _ => (by first | rfl | (show _ = _; simp only [hβ2]; done) | (show _ = _; simp only [hβ2]; rfl)), Ext.refl _⟩
  refine RW_d _ rfl (fun v => by dsimp only [List.set]; try rfl) (fun u hu hF => ?_) (fun v11 => ?_)
  · have h8_ : v7 = (Bo β1) := hF.1
    have h11_ : β1 = false → v10 = (Bo β2) := hF.2.1
    clear hF
    refine doesG_un rfl ?_
    skip
    obtain rfl := h8_
    refine (does_pick (b := β1) (u := (Bo true)) (v := v10) (ev rfl) (ev rfl) (ev rfl)).mono ?_; rintro _ _ ⟨rfl, rfl⟩; refine ⟨?_, Ext.refl _⟩; skip
    cases hbb : β1
    all_goals first | (show _ = _; simp only [↓reduceIte, Bool.true_and, Bool.false_and, Bool.true_or, Bool.false_or, Bool.false_eq_true]; done) | (have e_ := h11_ hbb; subst e_; show _ = _; simp only [↓reduceIte, Bool.true_and, Bool.false_and, Bool.true_or, Bool.false_or, Bool.false_eq_true]; done) | rfl | (have e_ := h11_ hbb; subst e_; rfl) | (simp [hbb] at h11_ ⊢; first | done | rfl | (subst h11_; rfl) | simp_all) | (simp [hbb] at h11_ ⊢; done)
  refine RW_fin ?_; intro w12 E13 hP14
  obtain ⟨⟨⟨⟨⟨⟨⟨⟨-, -⟩, -⟩, -⟩, -⟩, -⟩, -⟩, -⟩, q15⟩ := hP14
  have X16 := Ext.gr (Ext.refl w) E13
  have q15 : v11 = (Bo (β1 || β2)) := q15
  obtain rfl := q15
  show wpList _ _ _ _ (fr [_, _, _, _, _, _, _, _, _, _, _, _, _, _, _, _, _, _, _, _, _, _, _, _, _, _, _, _, _, _, _, _, _, _, _, _, _]) _
  refine wpList_nil (hK3 _ _ ?_)
  refine wp_cond_split (t := β1 || β2) (ev rfl) (fun c17 => ?_) (fun c17 => ?_)
  · have c17' := c17
    (try simp only [hβ1, hβ2] at c17')
    (try simp only [icmp, Bool.and_eq_true, Bool.or_eq_true, Bool.and_eq_false_iff, Bool.or_eq_false_iff, Bool.not_eq_true', Bool.not_eq_false', decide_eq_true_eq, decide_eq_false_iff_not, beq_iff_eq, bne_iff_ne, beq_eq_false_iff_ne, bne_eq_false_iff_eq] at c17')
    refine wp_seq_k fun K18 hK18 => ?_
    obtain ⟨β3, hβ3⟩ : ∃ b : Bool, b = (fcmp .neq (ford .f64 (cf .f64 x) (cf .f64 x))) := ⟨_, rfl⟩
    obtain ⟨β4, hβ4⟩ : ∃ b : Bool, b = (fcmp .neq (ford .f64 (cf .f64 y) (cf .f64 y))) := ⟨_, rfl⟩
    refine region_text (
      [Fact.pure [] (fun v => v = (Fd x)),
    Fact.pure [] (fun v => v = (Fd x)),
    Fact.pure [13, 14] (fun v => v = (Bo β3)),
    Fact.pure [15] (fun v => v = (Bo β3)),
    Fact.pure [16] (fun v => β3 = true → v = (Fd y)),
    Fact.pure [16] (fun v => β3 = true → v = (Fd y)),
    Fact.pure [17, 18, 16] (fun v => β3 = true → v = (Bo β4)),
    Fact.pure [16, 19] (fun v => v = (Bo (β3 && β4)))]) (by simp [Fact.pure, Fact.mem]) ?_
    refine RW_d _ rfl (fun v => by dsimp only [List.set]; try rfl) (fun u hu hF => ?_) (fun v19 => ?_)
    · clear hF
      refine doesG_un rfl ?_
      refine (does_move (u := (Fd x)) (ev rfl)).mono ?_; rintro _ _ ⟨rfl, rfl⟩
      exact ⟨rfl, Ext.refl _⟩
    refine RW_d _ rfl (fun v => by dsimp only [List.set]; try rfl) (fun u hu hF => ?_) (fun v20 => ?_)
    · clear hF
      refine doesG_un rfl ?_
      refine (does_move (u := (Fd x)) (ev rfl)).mono ?_; rintro _ _ ⟨rfl, rfl⟩
      exact ⟨rfl, Ext.refl _⟩
    refine RW_d _ rfl (fun v => by dsimp only [List.set]; try rfl) (fun u hu hF => ?_) (fun v21 => ?_)
    · have h13_ : v19 = (Fd x) := hF.1
      have h14_ : v20 = (Fd x) := hF.2.1
      clear hF
      refine doesG_un rfl ?_
      obtain rfl := h13_
      obtain rfl := h14_
      refine (does_fcmp (.inr (.inl rfl)) (ev rfl) (ev rfl)).mono ?_; rintro _ _ ⟨rfl, rfl⟩
      exact ⟨(by first | rfl | (show _ = _; simp only [hβ3]; done) | (show _ = _; simp only [hβ3]; rfl)), Ext.refl _⟩
    refine RW_d _ rfl (fun v => by dsimp only [List.set]; try rfl) (fun u hu hF => ?_) (fun v22 => ?_)
    · have h15_ : v21 = (Bo β3) := hF.1
      clear hF
      refine doesG_un rfl ?_
      obtain rfl := h15_
      refine (does_move (u := (Bo β3)) (ev rfl)).mono ?_; rintro _ _ ⟨rfl, rfl⟩
      exact ⟨rfl, Ext.refl _⟩
    refine RW_d _ rfl (fun v => by dsimp only [List.set]; try rfl) (fun u hu hF => ?_) (fun v23 => ?_)
    · have h16_ : v22 = (Bo β3) := hF.1
      clear hF
      obtain rfl := h16_
      refine doesG_g (b := β3) rfl (yld rfl rfl) (fun hg1 => ?_) (fun hc => ⟨fun hg1 => absurd hg1 hc, Ext.refl _⟩)
      refine (does_move (u := (Fd y)) (ev rfl)).mono ?_; rintro _ _ ⟨rfl, rfl⟩
      exact ⟨fun _ => rfl, Ext.refl _⟩
    refine RW_d _ rfl (fun v => by dsimp only [List.set]; try rfl) (fun u hu hF => ?_) (fun v24 => ?_)
    · have h16_ : v22 = (Bo β3) := hF.1
      clear hF
      obtain rfl := h16_
      refine doesG_g (b := β3) rfl (yld rfl rfl) (fun hg1 => ?_) (fun hc => ⟨fun hg1 => absurd hg1 hc, Ext.refl _⟩)
      refine (does_move (u := (Fd y)) (ev rfl)).mono ?_; rintro _ _ ⟨rfl, rfl⟩
      exact ⟨fun _ => rfl, Ext.refl _⟩
    refine RW_d _ rfl (fun v => by dsimp only [List.set]; try rfl) (fun u hu hF => ?_) (fun v25 => ?_)
    · have h17_ : β3 = true → v23 = (Fd y) := hF.1
      have h18_ : β3 = true → v24 = (Fd y) := hF.2.1
      have h16_ : v22 = (Bo β3) := hF.2.2.1
      clear hF
      obtain rfl := h16_
      refine doesG_g (b := β3) rfl (yld rfl rfl) (fun hg1 => ?_) (fun hc => ⟨fun hg1 => absurd hg1 hc, Ext.refl _⟩)
      obtain rfl := h17_ hg1
      obtain rfl := h18_ hg1
      refine (does_fcmp (.inr (.inl rfl)) (ev rfl) (ev rfl)).mono ?_; rintro _ _ ⟨rfl, rfl⟩
      exact ⟨fun _ => (by first | rfl | (show _ = _; simp only [hβ4]; done) | (show _ = _; simp only [hβ4]; rfl)), Ext.refl _⟩
    refine RW_d _ rfl (fun v => by dsimp only [List.set]; try rfl) (fun u hu hF => ?_) (fun v26 => ?_)
    · have h16_ : v22 = (Bo β3) := hF.1
      have h19_ : β3 = true → v25 = (Bo β4) := hF.2.1
      clear hF
      refine doesG_un rfl ?_
      skip
      obtain rfl := h16_
      refine (does_pick (b := β3) (u := v25) (v := (Bo false)) (ev rfl) (ev rfl) (ev rfl)).mono ?_; rintro _ _ ⟨rfl, rfl⟩; refine ⟨?_, Ext.refl _⟩; skip
      cases hbb : β3
      all_goals first | (show _ = _; simp only [↓reduceIte, Bool.true_and, Bool.false_and, Bool.true_or, Bool.false_or, Bool.false_eq_true]; done) | (have e_ := h19_ hbb; subst e_; show _ = _; simp only [↓reduceIte, Bool.true_and, Bool.false_and, Bool.true_or, Bool.false_or, Bool.false_eq_true]; done) | rfl | (have e_ := h19_ hbb; subst e_; rfl) | (simp [hbb] at h19_ ⊢; first | done | rfl | (subst h19_; rfl) | simp_all) | (simp [hbb] at h19_ ⊢; done)
    refine RW_fin ?_; intro w27 E28 hP29
    obtain ⟨⟨⟨⟨⟨⟨⟨⟨-, -⟩, -⟩, -⟩, -⟩, -⟩, -⟩, -⟩, q30⟩ := hP29
    have X31 := Ext.gr X16 E28
    have q30 : v26 = (Bo (β3 && β4)) := q30
    obtain rfl := q30
    show wpList _ _ _ _ (fr [_, _, _, _, _, _, _, _, _, _, _, _, _, _, _, _, _, _, _, _, _, _, _, _, _, _, _, _, _, _, _, _, _, _, _, _, _]) _
    refine q_is rfl rfl (does_assign (u := (Bo (β3 && β4))) (ev rfl)) (by dsimp only [List.set]; try rfl) ?_
    refine wpList_nil (hK18 _ _ ?_)
    refine wp_ret ?_
    dsimp only [Exit.then, Exit.inBlock]
    refine ret_val (v := (Bo (β3 && β4))) (res_T rfl (slot rfl)) X31 ?_
    try simp only [hβ1, hβ2, hβ3, hβ4] at c17
    have x32 : (sameF (cf .f64 x) (cf .f64 y)) = (β3 && β4) := by first | with_reducible rfl | (simp only [sameF, hβ1, hβ2, hβ3, hβ4, c17]; done) | (simp [sameF, hβ1, hβ2, hβ3, hβ4, c17]; done) | (revert c17; simp +contextual [sameF, hβ1, hβ2, hβ3, hβ4]; done) | (rcases c17' with hh | hh <;> simp only [hh, sameF, hβ1, hβ2, hβ3, hβ4, c17]; done) | (rcases c17' with hh | hh <;> simp_all [sameF]; done) | (rcases c17' with hh | hh | hh <;> simp_all [sameF]; done) | (rcases c17' with hh | hh | hh | hh <;> simp_all [sameF]; done) | (simp_all [sameF]; done) | rfl
    exact (by first | with_reducible rfl | rw [x32] | rfl)
  have c17' := c17
  (try simp only [hβ1, hβ2] at c17')
  (try simp only [icmp, Bool.and_eq_true, Bool.or_eq_true, Bool.and_eq_false_iff, Bool.or_eq_false_iff, Bool.not_eq_true', Bool.not_eq_false', decide_eq_true_eq, decide_eq_false_iff_not, beq_iff_eq, bne_iff_ne, beq_eq_false_iff_ne, bne_eq_false_iff_eq] at c17')
  refine wp_skip (hK2 _ _ ?_)
  refine wp_seq_k fun K33 hK33 => ?_
  refine wp_seq_k fun K34 hK34 => ?_
  obtain ⟨β5, hβ5⟩ : ∃ b : Bool, b = (fcmp .eql (ford .f64 (cf .f64 x) (cf .f64 0))) := ⟨_, rfl⟩
  obtain ⟨β6, hβ6⟩ : ∃ b : Bool, b = (fcmp .eql (ford .f64 (cf .f64 y) (cf .f64 0))) := ⟨_, rfl⟩
  refine region_text (
    [Fact.pure [] (fun v => v = (Fd x)),
    Fact.pure [21] (fun v => v = (Bo β5)),
    Fact.pure [22] (fun v => v = (Bo β5)),
    Fact.pure [23] (fun v => β5 = true → v = (Fd y)),
    Fact.pure [24, 23] (fun v => β5 = true → v = (Bo β6)),
    Fact.pure [23, 25] (fun v => v = (Bo (β5 && β6)))]) (by simp [Fact.pure, Fact.mem]) ?_
  refine RW_d _ rfl (fun v => by dsimp only [List.set]; try rfl) (fun u hu hF => ?_) (fun v35 => ?_)
  · clear hF
    refine doesG_un rfl ?_
    refine (does_move (u := (Fd x)) (ev rfl)).mono ?_; rintro _ _ ⟨rfl, rfl⟩
    exact ⟨rfl, Ext.refl _⟩
  refine RW_d _ rfl (fun v => by dsimp only [List.set]; try rfl) (fun u hu hF => ?_) (fun v36 => ?_)
  · have h21_ : v35 = (Fd x) := hF.1
    clear hF
    refine doesG_un rfl ?_
    obtain rfl := h21_
    refine (does_fcmp (.inl rfl) (ev rfl) (ev rfl)).mono ?_; rintro _ _ ⟨rfl, rfl⟩
    exact ⟨(by first | rfl | (show _ = _; simp only [hβ5]; done) | (show _ = _; simp only [hβ5]; rfl)), Ext.refl _⟩
  refine RW_d _ rfl (fun v => by dsimp only [List.set]; try rfl) (fun u hu hF => ?_) (fun v37 => ?_)
  · have h22_ : v36 = (Bo β5) := hF.1
    clear hF
    refine doesG_un rfl ?_
    obtain rfl := h22_
    refine (does_move (u := (Bo β5)) (ev rfl)).mono ?_; rintro _ _ ⟨rfl, rfl⟩
    exact ⟨rfl, Ext.refl _⟩
  refine RW_d _ rfl (fun v => by dsimp only [List.set]; try rfl) (fun u hu hF => ?_) (fun v38 => ?_)
  · have h23_ : v37 = (Bo β5) := hF.1
    clear hF
    obtain rfl := h23_
    refine doesG_g (b := β5) rfl (yld rfl rfl) (fun hg1 => ?_) (fun hc => ⟨fun hg1 => absurd hg1 hc, Ext.refl _⟩)
    refine (does_move (u := (Fd y)) (ev rfl)).mono ?_; rintro _ _ ⟨rfl, rfl⟩
    exact ⟨fun _ => rfl, Ext.refl _⟩
  refine RW_d _ rfl (fun v => by dsimp only [List.set]; try rfl) (fun u hu hF => ?_) (fun v39 => ?_)
  · have h24_ : β5 = true → v38 = (Fd y) := hF.1
    have h23_ : v37 = (Bo β5) := hF.2.1
    clear hF
    obtain rfl := h23_
    refine doesG_g (b := β5) rfl (yld rfl rfl) (fun hg1 => ?_) (fun hc => ⟨fun hg1 => absurd hg1 hc, Ext.refl _⟩)
    obtain rfl := h24_ hg1
    refine (does_fcmp (.inl rfl) (ev rfl) (ev rfl)).mono ?_; rintro _ _ ⟨rfl, rfl⟩
    exact ⟨fun _ => (by first | rfl | (show _ = _; simp only [hβ6]; done) | (show _ = _; simp only [hβ6]; rfl)), Ext.refl _⟩
  refine RW_d _ rfl (fun v => by dsimp only [List.set]; try rfl) (fun u hu hF => ?_) (fun v40 => ?_)
  · have h23_ : v37 = (Bo β5) := hF.1
    have h25_ : β5 = true → v39 = (Bo β6) := hF.2.1
    clear hF
    refine doesG_un rfl ?_
    skip
    obtain rfl := h23_
    refine (does_pick (b := β5) (u := v39) (v := (Bo false)) (ev rfl) (ev rfl) (ev rfl)).mono ?_; rintro _ _ ⟨rfl, rfl⟩; refine ⟨?_, Ext.refl _⟩; skip
    cases hbb : β5
    all_goals first | (show _ = _; simp only [↓reduceIte, Bool.true_and, Bool.false_and, Bool.true_or, Bool.false_or, Bool.false_eq_true]; done) | (have e_ := h25_ hbb; subst e_; show _ = _; simp only [↓reduceIte, Bool.true_and, Bool.false_and, Bool.true_or, Bool.false_or, Bool.false_eq_true]; done) | rfl | (have e_ := h25_ hbb; subst e_; rfl) | (simp [hbb] at h25_ ⊢; first | done | rfl | (subst h25_; rfl) | simp_all) | (simp [hbb] at h25_ ⊢; done)
  refine RW_fin ?_; intro w41 E42 hP43
  obtain ⟨⟨⟨⟨⟨⟨-, -⟩, -⟩, -⟩, -⟩, -⟩, q44⟩ := hP43
  have X45 := Ext.gr X16 E42
  have q44 : v40 = (Bo (β5 && β6)) := q44
  obtain rfl := q44
  show wpList _ _ _ _ (fr [_, _, _, _, _, _, _, _, _, _, _, _, _, _, _, _, _, _, _, _, _, _, _, _, _, _, _, _, _, _, _, _, _, _, _, _, _]) _
  refine wpList_nil (hK34 _ _ ?_)
  refine wp_cond_split (t := β5 && β6) (ev rfl) (fun c46 => ?_) (fun c46 => ?_)
  · have c46' := c46
    (try simp only [hβ1, hβ2, hβ5, hβ6] at c46')
    (try simp only [icmp, Bool.and_eq_true, Bool.or_eq_true, Bool.and_eq_false_iff, Bool.or_eq_false_iff, Bool.not_eq_true', Bool.not_eq_false', decide_eq_true_eq, decide_eq_false_iff_not, beq_iff_eq, bne_iff_ne, beq_eq_false_iff_ne, bne_eq_false_iff_eq] at c46')
    refine wp_seq_k fun K47 hK47 => ?_
    refine wp_region_lit ?_
    refine q_is rfl rfl (does_move (u := (Fd x)) (ev rfl)) (by dsimp only [List.set]; try rfl) ?_
    refine seqd rfl rfl (does_float (.inr (.inr (.inr rfl))) (ev rfl) (ev rfl)) ?_; rintro _ w51 ⟨r48, rfl, h49, E50⟩
    have X52 := Ext.gr X45 E50
    show wpList _ _ _ _ (fr [_, _, _, _, _, _, _, _, _, _, _, _, _, _, _, _, _, _, _, _, _, _, _, _, _, _, _, _, _, _, _, _, _, _, _, _, _]) _
    refine q_is rfl rfl (does_fcmp (.inr (.inr (.inr (.inr (.inl rfl))))) (ev rfl) (ev rfl)) (by dsimp only [List.set]; try rfl) ?_
    refine q_is rfl rfl (does_move (u := (Fd y)) (ev rfl)) (by dsimp only [List.set]; try rfl) ?_
    refine seqd rfl rfl (does_float (.inr (.inr (.inr rfl))) (ev rfl) (ev rfl)) ?_; rintro _ w56 ⟨r53, rfl, h54, E55⟩
    have X57 := Ext.gr X52 E55
    show wpList _ _ _ _ (fr [_, _, _, _, _, _, _, _, _, _, _, _, _, _, _, _, _, _, _, _, _, _, _, _, _, _, _, _, _, _, _, _, _, _, _, _, _]) _
    refine q_is rfl rfl (does_fcmp (.inr (.inr (.inr (.inr (.inl rfl))))) (ev rfl) (ev rfl)) (by dsimp only [List.set]; try rfl) ?_
    refine q_is rfl rfl (does_beq (p := (fcmp .gtr (ford .f64 (cf .f64 r48) (cf .f64 0)))) (q := (fcmp .gtr (ford .f64 (cf .f64 r53) (cf .f64 0)))) Try.underlying4 (ev rfl) (ev rfl)) (by dsimp only [List.set]; try rfl) ?_
    refine q_is rfl rfl (does_assign (u := (Bo ((fcmp .gtr (ford .f64 (cf .f64 r48) (cf .f64 0))) == (fcmp .gtr (ford .f64 (cf .f64 r53) (cf .f64 0)))))) (ev rfl)) (by dsimp only [List.set]; try rfl) ?_
    refine wpList_nil (hK47 _ _ ?_)
    refine wp_ret ?_
    dsimp only [Exit.then, Exit.inBlock]
    refine ret_val (v := (Bo ((fcmp .gtr (ford .f64 (cf .f64 r48) (cf .f64 0))) == (fcmp .gtr (ford .f64 (cf .f64 r53) (cf .f64 0)))))) (res_T rfl (slot rfl)) X57 ?_
    try simp only [hβ1, hβ2, hβ5, hβ6, h49, h54] at c17 c46
    have x58 : (sameF (cf .f64 x) (cf .f64 y)) = ((fcmp .gtr (ford .f64 (cf .f64 r48) (cf .f64 0))) == (fcmp .gtr (ford .f64 (cf .f64 r53) (cf .f64 0)))) := by first | with_reducible rfl | (simp only [sameF, hβ1, hβ2, hβ5, hβ6, h49, h54, c17, c46]; done) | (simp [sameF, hβ1, hβ2, hβ5, hβ6, h49, h54, c17, c46]; done) | (revert c17 c46; simp +contextual [sameF, hβ1, hβ2, hβ5, hβ6, h49, h54]; done) | (rcases c17' with hh | hh <;> simp only [hh, sameF, hβ1, hβ2, hβ5, hβ6, h49, h54, c17, c46]; done) | (rcases c46' with hh | hh <;> simp only [hh, sameF, hβ1, hβ2, hβ5, hβ6, h49, h54, c17, c46]; done) | (rcases c46' with hh | hh <;> simp_all [sameF]; done) | (rcases c46' with hh | hh | hh <;> simp_all [sameF]; done) | (rcases c46' with hh | hh | hh | hh <;> simp_all [sameF]; done) | (simp_all [sameF]; done) | rfl
    exact (by first | with_reducible rfl | rw [x58] | rfl)
  have c46' := c46
  (try simp only [hβ1, hβ2, hβ5, hβ6] at c46')
  (try simp only [icmp, Bool.and_eq_true, Bool.or_eq_true, Bool.and_eq_false_iff, Bool.or_eq_false_iff, Bool.not_eq_true', Bool.not_eq_false', decide_eq_true_eq, decide_eq_false_iff_not, beq_iff_eq, bne_iff_ne, beq_eq_false_iff_ne, bne_eq_false_iff_eq] at c46')
  refine wp_skip (hK33 _ _ ?_)
  refine wp_seq_k fun K59 hK59 => ?_
  refine wp_region_lit ?_
  refine q_is rfl rfl (does_move (u := (Fd x)) (ev rfl)) (by dsimp only [List.set]; try rfl) ?_
  refine q_is rfl rfl (does_move (u := (Fd y)) (ev rfl)) (by dsimp only [List.set]; try rfl) ?_
  refine q_is rfl rfl (does_fcmp (.inl rfl) (ev rfl) (ev rfl)) (by dsimp only [List.set]; try rfl) ?_
  refine q_is rfl rfl (does_assign (u := (Bo (fcmp .eql (ford .f64 (cf .f64 x) (cf .f64 y))))) (ev rfl)) (by dsimp only [List.set]; try rfl) ?_
  refine wpList_nil (hK59 _ _ ?_)
  refine wp_ret ?_
  refine ret_val (v := (Bo (fcmp .eql (ford .f64 (cf .f64 x) (cf .f64 y))))) (res_T rfl (slot rfl)) X45 ?_
  try simp only [hβ1, hβ2, hβ5, hβ6] at c17 c46
  have x60 : (sameF (cf .f64 x) (cf .f64 y)) = (fcmp .eql (ford .f64 (cf .f64 x) (cf .f64 y))) := by first | with_reducible rfl | (simp only [sameF, hβ1, hβ2, hβ5, hβ6, c17, c46]; done) | (simp [sameF, hβ1, hβ2, hβ5, hβ6, c17, c46]; done) | (revert c17 c46; simp +contextual [sameF, hβ1, hβ2, hβ5, hβ6]; done) | (rcases c17' with hh | hh <;> simp only [hh, sameF, hβ1, hβ2, hβ5, hβ6, c17, c46]; done) | (rcases c46' with hh | hh <;> simp only [hh, sameF, hβ1, hβ2, hβ5, hβ6, c17, c46]; done) | (rcases c46' with hh | hh <;> simp_all [sameF]; done) | (rcases c46' with hh | hh | hh <;> simp_all [sameF]; done) | (rcases c46' with hh | hh | hh | hh <;> simp_all [sameF]; done) | (simp_all [sameF]; done) | rfl
  exact (by first | with_reducible rfl | rw [x60] | rfl)

/- laws.eqVector -/
theorem c_laws_eqVector (a : List Value) (A_a : V3) (b : List Value) (A_b : V3) (w : World) (hv_a : RV3 w A_a a) (hv_b : RV3 w A_b b) : Gives Try.prog 42 #[(.agg a.toArray), (.agg b.toArray)] w (fun v w' => v = (Bo (sameV A_a A_b))) := by
  obtain ⟨r1, r3, r5, rfl, h2, h4, h6⟩ := hv_a
  obtain ⟨r7, r9, r11, rfl, h8, h10, h12⟩ := hv_b
  refine enter [(.agg #[(Fl r1), (Fl r3), (Fl r5)]), (.agg #[(Fl r7), (Fl r9), (Fl r11)]), Ud, Ud, Ud, Ud, Ud, Ud, Ud, Ud, Ud, Ud, Ud, Ud, Ud, Ud, Ud, Ud, Ud, Ud, Ud, Ud, Ud, Ud, Ud, Ud, Ud, Ud, Ud] Try.func42 rfl Try.ntmps42 rfl ?_
  refine wp_seq_k fun K13 hK13 => ?_
  refine wp_region_lit ?_
  refine seqd rfl rfl (does_box (u := (.agg #[(Fl r1), (Fl r3), (Fl r5)])) (ev rfl)) ?_; rintro _ w18 ⟨b14, rfl, hb15, hB16, E17⟩
  have g19 : w.heap.size ≤ b14 := Nat.le_trans (Below.size (Ext.refl w)) hb15
  change Blk _ _ [(Fl r1), (Fl r3), (Fl r5)] at hB16
  have X20 := Ext.gr (Ext.refl w) E17
  show wpList _ _ _ _ (fr [_, _, _, _, _, _, _, _, _, _, _, _, _, _, _, _, _, _, _, _, _, _, _, _, _, _, _, _, _]) _
  refine seqd rfl rfl (does_box (u := (.agg #[(Fl r7), (Fl r9), (Fl r11)])) (ev rfl)) ?_; rintro _ w25 ⟨b21, rfl, hb22, hB23, E24⟩
  have n26 : b14 < b21 := Nat.lt_of_lt_of_le (Blk.lt hB16) hb22
  have g27 : w.heap.size ≤ b21 := Nat.le_trans (Below.size X20) hb22
  change Blk _ _ [(Fl r7), (Fl r9), (Fl r11)] at hB23
  have X28 := Ext.gr X20 E24
  show wpList _ _ _ _ (fr [_, _, _, _, _, _, _, _, _, _, _, _, _, _, _, _, _, _, _, _, _, _, _, _, _, _, _, _, _]) _
  refine q_is rfl rfl (does_assign (u := (Bo false)) (ev rfl)) (by dsimp only [List.set]; try rfl) ?_
  refine wpList_nil (hK13 _ _ ?_)
  refine wp_seq_k fun K29 hK29 => ?_
  refine wp_seq_k fun K30 hK30 => ?_
  refine wp_region_lit ?_
  refine q_is rfl rfl (does_fieldAddr (ev rfl) fa47_0) (by dsimp only [List.set]; try rfl) ?_
  refine q_is rfl rfl (does_load (u := (Fl r1)) (ev rfl) Try.isAgg39 (Cells.at (Blk.cells (hB16.ext E24)) 0 rfl)) (by dsimp only [List.set]; try rfl) ?_
  refine seqd rfl rfl (does_widen Try.underlying39 Try.underlying78 (ev rfl)) ?_; rintro _ w34 ⟨r31, rfl, h32, E33⟩
  have X35 := Ext.gr X28 E33
  show wpList _ _ _ _ (fr [_, _, _, _, _, _, _, _, _, _, _, _, _, _, _, _, _, _, _, _, _, _, _, _, _, _, _, _, _]) _
  refine q_is rfl rfl (does_fieldAddr (ev rfl) fa47_0) (by dsimp only [List.set]; try rfl) ?_
  refine q_is rfl rfl (does_load (u := (Fl r7)) (ev rfl) Try.isAgg39 (Cells.at (Blk.cells (hB23.ext E33)) 0 rfl)) (by dsimp only [List.set]; try rfl) ?_
  refine seqd rfl rfl (does_widen Try.underlying39 Try.underlying78 (ev rfl)) ?_; rintro _ w39 ⟨r36, rfl, h37, E38⟩
  have X40 := Ext.gr X35 E38
  show wpList _ _ _ _ (fr [_, _, _, _, _, _, _, _, _, _, _, _, _, _, _, _, _, _, _, _, _, _, _, _, _, _, _, _, _]) _
  refine seqd rfl rfl (does_call (args := #[(Fd r31), (Fd r36)]) cal43 (evs rfl) (c_laws_sameFloat r31 r36 _)) ?_; rintro _ w42 ⟨E41, rfl⟩
  have X43 := Ext.gr X40 E41
  show wpList _ _ _ _ (fr [_, _, _, _, _, _, _, _, _, _, _, _, _, _, _, _, _, _, _, _, _, _, _, _, _, _, _, _, _]) _
  refine q_is rfl rfl (does_not (ev rfl)) (by dsimp only [List.set]; try rfl) ?_
  refine wpList_nil (hK30 _ _ ?_)
  refine wp_cond_split (t := !(sameF (cf .f64 r31) (cf .f64 r36))) (ev rfl) (fun c44 => ?_) (fun c44 => ?_)
  · rw [Bool.not_eq_true'] at c44
    have c44' := c44
    refine wp_seq_k fun K45 hK45 => ?_
    refine wp_region_lit ?_
    refine q_is rfl rfl (does_assign (u := (Bo false)) (ev rfl)) (by dsimp only [List.set]; try rfl) ?_
    refine wpList_nil (hK45 _ _ ?_)
    refine wp_ret ?_
    dsimp only [Exit.then, Exit.inBlock]
    refine ret_val (v := (Bo false)) (res_T rfl (slot rfl)) X43 ?_
    try simp only [h2, h4, h6, h8, h10, h12, h32, h37] at c44
    have x46 : (sameV A_a A_b) = false := by first | with_reducible rfl | (simp only [sameV, h2, h4, h6, h8, h10, h12, h32, h37, c44]; done) | (simp [sameV, h2, h4, h6, h8, h10, h12, h32, h37, c44]; done) | (revert c44; simp +contextual [sameV, h2, h4, h6, h8, h10, h12, h32, h37]; done) | (rcases c44' with hh | hh <;> simp only [hh, sameV, h2, h4, h6, h8, h10, h12, h32, h37, c44]; done) | (rcases c44' with hh | hh <;> simp_all [sameV]; done) | (rcases c44' with hh | hh | hh <;> simp_all [sameV]; done) | (rcases c44' with hh | hh | hh | hh <;> simp_all [sameV]; done) | (simp_all [sameV]; done) | rfl
    exact (by first | with_reducible rfl | rw [x46] | rfl)
  rw [Bool.not_eq_false'] at c44
  have c44' := c44
  refine wp_skip (hK29 _ _ ?_)
  refine wp_seq_k fun K47 hK47 => ?_
  refine wp_seq_k fun K48 hK48 => ?_
  refine wp_region_lit ?_
  refine q_is rfl rfl (does_fieldAddr (ev rfl) fa47_1) (by dsimp only [List.set]; try rfl) ?_
  refine q_is rfl rfl (does_load (u := (Fl r3)) (ev rfl) Try.isAgg39 (Cells.at (Blk.cells ((((hB16.ext E24).ext E33).ext E38).ext E41)) 1 rfl)) (by dsimp only [List.set]; try rfl) ?_
  refine seqd rfl rfl (does_widen Try.underlying39 Try.underlying78 (ev rfl)) ?_; rintro _ w52 ⟨r49, rfl, h50, E51⟩
  have X53 := Ext.gr X43 E51
  show wpList _ _ _ _ (fr [_, _, _, _, _, _, _, _, _, _, _, _, _, _, _, _, _, _, _, _, _, _, _, _, _, _, _, _, _]) _
  refine q_is rfl rfl (does_fieldAddr (ev rfl) fa47_1) (by dsimp only [List.set]; try rfl) ?_
  refine q_is rfl rfl (does_load (u := (Fl r9)) (ev rfl) Try.isAgg39 (Cells.at (Blk.cells ((((hB23.ext E33).ext E38).ext E41).ext E51)) 1 rfl)) (by dsimp only [List.set]; try rfl) ?_
  refine seqd rfl rfl (does_widen Try.underlying39 Try.underlying78 (ev rfl)) ?_; rintro _ w57 ⟨r54, rfl, h55, E56⟩
  have X58 := Ext.gr X53 E56
  show wpList _ _ _ _ (fr [_, _, _, _, _, _, _, _, _, _, _, _, _, _, _, _, _, _, _, _, _, _, _, _, _, _, _, _, _]) _
  refine seqd rfl rfl (does_call (args := #[(Fd r49), (Fd r54)]) cal43 (evs rfl) (c_laws_sameFloat r49 r54 _)) ?_; rintro _ w60 ⟨E59, rfl⟩
  have X61 := Ext.gr X58 E59
  show wpList _ _ _ _ (fr [_, _, _, _, _, _, _, _, _, _, _, _, _, _, _, _, _, _, _, _, _, _, _, _, _, _, _, _, _]) _
  refine q_is rfl rfl (does_not (ev rfl)) (by dsimp only [List.set]; try rfl) ?_
  refine wpList_nil (hK48 _ _ ?_)
  refine wp_cond_split (t := !(sameF (cf .f64 r49) (cf .f64 r54))) (ev rfl) (fun c62 => ?_) (fun c62 => ?_)
  · rw [Bool.not_eq_true'] at c62
    have c62' := c62
    refine wp_seq_k fun K63 hK63 => ?_
    refine wp_region_lit ?_
    refine q_is rfl rfl (does_assign (u := (Bo false)) (ev rfl)) (by dsimp only [List.set]; try rfl) ?_
    refine wpList_nil (hK63 _ _ ?_)
    refine wp_ret ?_
    dsimp only [Exit.then, Exit.inBlock]
    refine ret_val (v := (Bo false)) (res_T rfl (slot rfl)) X61 ?_
    try simp only [h2, h4, h6, h8, h10, h12, h32, h37, h50, h55] at c44 c62
    have x64 : (sameV A_a A_b) = false := by first | with_reducible rfl | (simp only [sameV, h2, h4, h6, h8, h10, h12, h32, h37, h50, h55, c44, c62]; done) | (simp [sameV, h2, h4, h6, h8, h10, h12, h32, h37, h50, h55, c44, c62]; done) | (revert c44 c62; simp +contextual [sameV, h2, h4, h6, h8, h10, h12, h32, h37, h50, h55]; done) | (rcases c44' with hh | hh <;> simp only [hh, sameV, h2, h4, h6, h8, h10, h12, h32, h37, h50, h55, c44, c62]; done) | (rcases c62' with hh | hh <;> simp only [hh, sameV, h2, h4, h6, h8, h10, h12, h32, h37, h50, h55, c44, c62]; done) | (rcases c62' with hh | hh <;> simp_all [sameV]; done) | (rcases c62' with hh | hh | hh <;> simp_all [sameV]; done) | (rcases c62' with hh | hh | hh | hh <;> simp_all [sameV]; done) | (simp_all [sameV]; done) | rfl
    exact (by first | with_reducible rfl | rw [x64] | rfl)
  rw [Bool.not_eq_false'] at c62
  have c62' := c62
  refine wp_skip (hK47 _ _ ?_)
  refine wp_seq_k fun K65 hK65 => ?_
  refine wp_seq_k fun K66 hK66 => ?_
  refine wp_region_lit ?_
  refine q_is rfl rfl (does_fieldAddr (ev rfl) fa47_2) (by dsimp only [List.set]; try rfl) ?_
  refine q_is rfl rfl (does_load (u := (Fl r5)) (ev rfl) Try.isAgg39 (Cells.at (Blk.cells (((((((hB16.ext E24).ext E33).ext E38).ext E41).ext E51).ext E56).ext E59)) 2 rfl)) (by dsimp only [List.set]; try rfl) ?_
  refine seqd rfl rfl (does_widen Try.underlying39 Try.underlying78 (ev rfl)) ?_; rintro _ w70 ⟨r67, rfl, h68, E69⟩
  have X71 := Ext.gr X61 E69
  show wpList _ _ _ _ (fr [_, _, _, _, _, _, _, _, _, _, _, _, _, _, _, _, _, _, _, _, _, _, _, _, _, _, _, _, _]) _
  refine q_is rfl rfl (does_fieldAddr (ev rfl) fa47_2) (by dsimp only [List.set]; try rfl) ?_
  refine q_is rfl rfl (does_load (u := (Fl r11)) (ev rfl) Try.isAgg39 (Cells.at (Blk.cells (((((((hB23.ext E33).ext E38).ext E41).ext E51).ext E56).ext E59).ext E69)) 2 rfl)) (by dsimp only [List.set]; try rfl) ?_
  refine seqd rfl rfl (does_widen Try.underlying39 Try.underlying78 (ev rfl)) ?_; rintro _ w75 ⟨r72, rfl, h73, E74⟩
  have X76 := Ext.gr X71 E74
  show wpList _ _ _ _ (fr [_, _, _, _, _, _, _, _, _, _, _, _, _, _, _, _, _, _, _, _, _, _, _, _, _, _, _, _, _]) _
  refine seqd rfl rfl (does_call (args := #[(Fd r67), (Fd r72)]) cal43 (evs rfl) (c_laws_sameFloat r67 r72 _)) ?_; rintro _ w78 ⟨E77, rfl⟩
  have X79 := Ext.gr X76 E77
  show wpList _ _ _ _ (fr [_, _, _, _, _, _, _, _, _, _, _, _, _, _, _, _, _, _, _, _, _, _, _, _, _, _, _, _, _]) _
  refine q_is rfl rfl (does_not (ev rfl)) (by dsimp only [List.set]; try rfl) ?_
  refine wpList_nil (hK66 _ _ ?_)
  refine wp_cond_split (t := !(sameF (cf .f64 r67) (cf .f64 r72))) (ev rfl) (fun c80 => ?_) (fun c80 => ?_)
  · rw [Bool.not_eq_true'] at c80
    have c80' := c80
    refine wp_seq_k fun K81 hK81 => ?_
    refine wp_region_lit ?_
    refine q_is rfl rfl (does_assign (u := (Bo false)) (ev rfl)) (by dsimp only [List.set]; try rfl) ?_
    refine wpList_nil (hK81 _ _ ?_)
    refine wp_ret ?_
    dsimp only [Exit.then, Exit.inBlock]
    refine ret_val (v := (Bo false)) (res_T rfl (slot rfl)) X79 ?_
    try simp only [h2, h4, h6, h8, h10, h12, h32, h37, h50, h55, h68, h73] at c44 c62 c80
    have x82 : (sameV A_a A_b) = false := by first | with_reducible rfl | (simp only [sameV, h2, h4, h6, h8, h10, h12, h32, h37, h50, h55, h68, h73, c44, c62, c80]; done) | (simp [sameV, h2, h4, h6, h8, h10, h12, h32, h37, h50, h55, h68, h73, c44, c62, c80]; done) | (revert c44 c62 c80; simp +contextual [sameV, h2, h4, h6, h8, h10, h12, h32, h37, h50, h55, h68, h73]; done) | (rcases c44' with hh | hh <;> simp only [hh, sameV, h2, h4, h6, h8, h10, h12, h32, h37, h50, h55, h68, h73, c44, c62, c80]; done) | (rcases c62' with hh | hh <;> simp only [hh, sameV, h2, h4, h6, h8, h10, h12, h32, h37, h50, h55, h68, h73, c44, c62, c80]; done) | (rcases c80' with hh | hh <;> simp only [hh, sameV, h2, h4, h6, h8, h10, h12, h32, h37, h50, h55, h68, h73, c44, c62, c80]; done) | (rcases c80' with hh | hh <;> simp_all [sameV]; done) | (rcases c80' with hh | hh | hh <;> simp_all [sameV]; done) | (rcases c80' with hh | hh | hh | hh <;> simp_all [sameV]; done) | (simp_all [sameV]; done) | rfl
    exact (by first | with_reducible rfl | rw [x82] | rfl)
  rw [Bool.not_eq_false'] at c80
  have c80' := c80
  refine wp_skip (hK65 _ _ ?_)
  refine wp_seq_k fun K83 hK83 => ?_
  refine wp_region_lit ?_
  refine q_is rfl rfl (does_assign (u := (Bo true)) (ev rfl)) (by dsimp only [List.set]; try rfl) ?_
  refine wpList_nil (hK83 _ _ ?_)
  refine wp_ret ?_
  refine ret_val (v := (Bo true)) (res_T rfl (slot rfl)) X79 ?_
  try simp only [h2, h4, h6, h8, h10, h12, h32, h37, h50, h55, h68, h73] at c44 c62 c80
  have x84 : (sameV A_a A_b) = true := by first | with_reducible rfl | (simp only [sameV, h2, h4, h6, h8, h10, h12, h32, h37, h50, h55, h68, h73, c44, c62, c80]; done) | (simp [sameV, h2, h4, h6, h8, h10, h12, h32, h37, h50, h55, h68, h73, c44, c62, c80]; done) | (revert c44 c62 c80; simp +contextual [sameV, h2, h4, h6, h8, h10, h12, h32, h37, h50, h55, h68, h73]; done) | (rcases c44' with hh | hh <;> simp only [hh, sameV, h2, h4, h6, h8, h10, h12, h32, h37, h50, h55, h68, h73, c44, c62, c80]; done) | (rcases c62' with hh | hh <;> simp only [hh, sameV, h2, h4, h6, h8, h10, h12, h32, h37, h50, h55, h68, h73, c44, c62, c80]; done) | (rcases c80' with hh | hh <;> simp only [hh, sameV, h2, h4, h6, h8, h10, h12, h32, h37, h50, h55, h68, h73, c44, c62, c80]; done) | (rcases c80' with hh | hh <;> simp_all [sameV]; done) | (rcases c80' with hh | hh | hh <;> simp_all [sameV]; done) | (rcases c80' with hh | hh | hh | hh <;> simp_all [sameV]; done) | (simp_all [sameV]; done) | rfl
  exact (by first | with_reducible rfl | rw [x84] | rfl)

/- laws.eqVectorS -/
theorem c_laws_eqVectorS (a : Value) (L_a : List V3) (b : Value) (L_b : List V3) (w : World) (hv_a : Sl RV3 3 w a L_a) (hv_b : Sl RV3 3 w b L_b) : Gives Try.prog 30 #[a, b] w (fun v w' => v = (Bo (sameX sameV L_a L_b))) := by
  have hlen_a := Sl.len hv_a; obtain ⟨p_a, q_a, rfl⟩ := Sl.shape hv_a
  have hlen_b := Sl.len hv_b; obtain ⟨p_b, q_b, rfl⟩ := Sl.shape hv_b
  refine enter [(.slice p_a L_a.length q_a), (.slice p_b L_b.length q_b), Ud, Ud, Ud, Ud, Ud, Ud, Ud, Ud, Ud, Ud, Ud, Ud, Ud, Ud, Ud, Ud, Ud, Ud, Ud, Ud, Ud, Ud, Ud, Ud, Ud] Try.func30 rfl Try.ntmps30 rfl ?_
  refine wp_seq_k fun K1 hK1 => ?_
  refine wp_region_lit ?_
  refine q_is rfl rfl (does_assign (u := (Bo false)) (ev rfl)) (by dsimp only [List.set]; try rfl) ?_
  refine wpList_nil (hK1 _ _ ?_)
  refine wp_seq_k fun K2 hK2 => ?_
  refine wp_seq_k fun K3 hK3 => ?_
  refine wp_region_lit ?_
  refine q_is rfl rfl (does_move (u := (.slice p_a L_a.length q_a)) (ev rfl)) (by dsimp only [List.set]; try rfl) ?_
  refine q_is rfl rfl (does_len_slice Try.underlying30 (ev rfl)) (by dsimp only [List.set]; try rfl) ?_
  refine q_is rfl rfl (does_move (u := (.slice p_b L_b.length q_b)) (ev rfl)) (by dsimp only [List.set]; try rfl) ?_
  refine q_is rfl rfl (does_len_slice Try.underlying30 (ev rfl)) (by dsimp only [List.set]; try rfl) ?_
  refine q_is rfl rfl (does_icmp (p := (L_a.length : Int)) (q := (L_b.length : Int)) (.inr (.inl rfl)) (ev rfl) (ev rfl)) (by dsimp only [List.set]; try rfl) ?_
  refine wpList_nil (hK3 _ _ ?_)
  refine wp_cond_split (t := icmp .neq (L_a.length : Int) (L_b.length : Int)) (ev rfl) (fun c4 => ?_) (fun c4 => ?_)
  · have c4' := c4
    (try simp only [icmp, Bool.and_eq_true, Bool.or_eq_true, Bool.and_eq_false_iff, Bool.or_eq_false_iff, Bool.not_eq_true', Bool.not_eq_false', decide_eq_true_eq, decide_eq_false_iff_not, beq_iff_eq, bne_iff_ne, beq_eq_false_iff_ne, bne_eq_false_iff_eq] at c4')
    refine wp_seq_k fun K5 hK5 => ?_
    refine wp_region_lit ?_
    refine q_is rfl rfl (does_assign (u := (Bo false)) (ev rfl)) (by dsimp only [List.set]; try rfl) ?_
    refine wpList_nil (hK5 _ _ ?_)
    refine wp_ret ?_
    dsimp only [Exit.then, Exit.inBlock]
    refine ret_val (v := (Bo false)) (res_T rfl (slot rfl)) (Ext.refl w) ?_
    have x6 : (sameX sameV L_a L_b) = false := by first | exact (sameX_len (by omega)) | exact (sameX_not (by omega) (by assumption) (by assumption) (by simp_all)) | exact (sameX_all (by omega) (by omega) hs)
    exact (by first | with_reducible rfl | rw [x6] | rfl)
  have c4' := c4
  (try simp only [icmp, Bool.and_eq_true, Bool.or_eq_true, Bool.and_eq_false_iff, Bool.or_eq_false_iff, Bool.not_eq_true', Bool.not_eq_false', decide_eq_true_eq, decide_eq_false_iff_not, beq_iff_eq, bne_iff_ne, beq_eq_false_iff_ne, bne_eq_false_iff_eq] at c4')
  refine wp_skip (hK2 _ _ ?_)
  refine wp_seq_k fun K7 hK7 => ?_
  refine wp_seq_k fun K8 hK8 => ?_
  refine wp_region_lit ?_
  refine q_is rfl rfl (does_assign (u := (Iv 0)) (ev rfl)) (by dsimp only [List.set]; try rfl) ?_
  refine wpList_nil (hK8 _ _ ?_)
  refine wp_block ?_
  refine loop_ghost (σ := Nat) (fun k a w' => ∃ u9 : Nat → Value, a = fr [(.slice p_a L_a.length q_a), (.slice p_b L_b.length q_b), Ud, Ud, (u9 4), (Iv (k : Int)), (.slice p_a L_a.length q_a), (Iv (L_a.length : Int)), (.slice p_b L_b.length q_b), (Iv (L_b.length : Int)), (Bo (icmp .neq (L_a.length : Int) (L_b.length : Int))), (u9 11), (u9 12), (u9 13), (u9 14), (u9 15), (u9 16), (u9 17), (u9 18), (u9 19), (u9 20), (u9 21), (u9 22), (u9 23), (u9 24), (u9 25), (u9 26)] ∧ Ext w w' ∧ (k ≤ L_a.length ∧ SameXTo sameV L_a L_b k)) (fun k => L_a.length - k) 0 ?_ ?_
  · refine ⟨fun t => (([(.slice p_a L_a.length q_a), (.slice p_b L_b.length q_b), Ud, Ud, (Bo false), (Iv 0), (.slice p_a L_a.length q_a), (Iv (L_a.length : Int)), (.slice p_b L_b.length q_b), (Iv (L_b.length : Int)), (Bo (icmp .neq (L_a.length : Int) (L_b.length : Int))), Ud, Ud, Ud, Ud, Ud, Ud, Ud, Ud, Ud, Ud, Ud, Ud, Ud, Ud, Ud, Ud] : List Value)[t]?).getD undef, rfl, Ext.refl _, ?_⟩
    exact ⟨Nat.zero_le _, SameXTo.zero⟩
  · rintro k a w10 ⟨u9, rfl, E11, ⟨hk, hs⟩⟩
    have X13 := Ext.gr (Ext.refl w) E11
    refine wp_seq_k fun K14 hK14 => ?_
    refine wp_seq_k fun K15 hK15 => ?_
    refine wp_region_lit ?_
    refine q_is rfl rfl (does_move (u := (Iv (k : Int))) (ev rfl)) (by dsimp only [List.set]; try rfl) ?_
    refine q_is rfl rfl (does_move (u := (.slice p_a L_a.length q_a)) (ev rfl)) (by dsimp only [List.set]; try rfl) ?_
    refine q_is rfl rfl (does_len_slice Try.underlying30 (ev rfl)) (by dsimp only [List.set]; try rfl) ?_
    refine q_is rfl rfl (does_icmp (p := (k : Int)) (q := (L_a.length : Int)) (.inr (.inr (.inl rfl))) (ev rfl) (ev rfl)) (by dsimp only [List.set]; try rfl) ?_
    refine wpList_nil (hK15 _ _ ?_)
    refine wp_cond_split (t := icmp .lss (k : Int) (L_a.length : Int)) (ev rfl) (fun c16 => ?_) (fun c16 => ?_)
    · have c16' := c16
      (try simp only [icmp, Bool.and_eq_true, Bool.or_eq_true, Bool.and_eq_false_iff, Bool.or_eq_false_iff, Bool.not_eq_true', Bool.not_eq_false', decide_eq_true_eq, decide_eq_false_iff_not, beq_iff_eq, bne_iff_ne, beq_eq_false_iff_ne, bne_eq_false_iff_eq] at c16')
      refine wp_skip (hK14 _ _ ?_)
      refine wp_seq_k fun K17 hK17 => ?_
      refine wp_block ?_
      refine wp_seq_k fun K18 hK18 => ?_
      obtain ⟨el1, hel1⟩ : ∃ e, L_a[k]? = some e := ⟨_, List.getElem?_eq_getElem (by omega)⟩
      obtain ⟨el2, hel2⟩ : ∃ e, L_b[k]? = some e := ⟨_, List.getElem?_eq_getElem (by omega)⟩
      refine region_draw (
        [Fact.pure [] (fun v => v = (.slice p_a L_a.length q_a)),
    Fact.pure [] (fun v => v = (Iv (k : Int))),
    Fact.mem [17, 18] (fun v w' => PtrR RV3 w' v el1) (by intro v w1 w2 hx h; exact h.ext RV3.mono hx),
    Fact.pure [19] (fun v => ∃ cs_1 : List Value, v = (.agg cs_1.toArray) ∧ RV3 w el1 cs_1),
    Fact.pure [] (fun v => v = (.slice p_b L_b.length q_b)),
    Fact.pure [] (fun v => v = (Iv (k : Int))),
    Fact.mem [21, 22] (fun v w' => PtrR RV3 w' v el2) (by intro v w1 w2 hx h; exact h.ext RV3.mono hx),
    Fact.pure [23] (fun v => ∃ cs_1 : List Value, v = (.agg cs_1.toArray) ∧ RV3 w el2 cs_1),
    Fact.pure [20, 24] (fun v => v = (Bo (sameV el1 el2))),
    Fact.pure [25] (fun v => v = (Bo (!(sameV el1 el2))))]) mixed (by kernel_rfl) (by intro _ _ d _ _ h; cases d <;> exact h) ?_
      obtain ⟨w19, hw21⟩ : ∃ w', w' = World.drew w10 := ⟨_, rfl⟩; rw [← hw21]; have E20 : Ext w10 w19 := by rw [hw21]; exact Ext.draw _
      clear hw21
      have X22 := Ext.gr X13 E20
      refine RW_d _ rfl (fun v => by dsimp only [List.set]; try rfl) (fun u hu hF => ?_) (fun v23 => ?_)
      · clear hF
        refine doesG_un rfl ?_
        refine (does_move (u := (.slice p_a L_a.length q_a)) (ev rfl)).mono ?_; rintro _ _ ⟨rfl, rfl⟩
        exact ⟨rfl, Ext.refl _⟩
      refine RW_d _ rfl (fun v => by dsimp only [List.set]; try rfl) (fun u hu hF => ?_) (fun v24 => ?_)
      · clear hF
        refine doesG_un rfl ?_
        refine (does_move (u := (Iv (k : Int))) (ev rfl)).mono ?_; rintro _ _ ⟨rfl, rfl⟩
        exact ⟨rfl, Ext.refl _⟩
      refine RW_d _ rfl (fun v => by dsimp only [List.set]; try rfl) (fun u hu hF => ?_) (fun v25 => ?_)
      · have h17_ : v23 = (.slice p_a L_a.length q_a) := hF.1
        have h18_ : v24 = (Iv (k : Int)) := hF.2.1
        clear hF
        refine doesG_un rfl ?_
        obtain rfl := h17_
        obtain rfl := h18_
        refine (does_indexSl (R := RV3) (i := (k : Int)) (xs := L_a) (e := el1) Try.underlying30 Try.sizeOf47 (ev rfl) (ev rfl) (Sl.ext (Sl.ext hv_a RV3.mono (Ext.gr X13 E20)) RV3.mono hu) (by omega) hel1).mono ?_; rintro v u' ⟨b, of, cs, hv, hc, hR, hu'⟩; subst hu'
        exact ⟨⟨b, of, cs, hv, hc, hR⟩, Ext.refl _⟩
      refine RW_d _ rfl (fun v => by dsimp only [List.set]; try rfl) (fun u hu hF => ?_) (fun v26 => ?_)
      · have h19_ : PtrR RV3 u v25 el1 := hF.1
        clear hF
        refine doesG_un rfl ?_
        obtain ⟨b19_, o19_, _, rfl, hc19_, ⟨r19_1, r19_3, r19_5, rfl, h19_2, h19_4, h19_6⟩⟩ := h19_
        refine (does_loadAgg (cs := [(Fl r19_1), (Fl r19_3), (Fl r19_5)]) (ev rfl) Try.isAgg47 Try.sizeOf47 hc19_ rfl).mono ?_; rintro _ _ ⟨rfl, rfl⟩
        exact ⟨⟨[(Fl r19_1), (Fl r19_3), (Fl r19_5)], rfl, ⟨r19_1, r19_3, r19_5, rfl, (by first | assumption | rfl), (by first | assumption | rfl), (by first | assumption | rfl)⟩⟩, Ext.refl _⟩
      refine RW_d _ rfl (fun v => by dsimp only [List.set]; try rfl) (fun u hu hF => ?_) (fun v27 => ?_)
      · clear hF
        refine doesG_un rfl ?_
        refine (does_move (u := (.slice p_b L_b.length q_b)) (ev rfl)).mono ?_; rintro _ _ ⟨rfl, rfl⟩
        exact ⟨rfl, Ext.refl _⟩
      refine RW_d _ rfl (fun v => by dsimp only [List.set]; try rfl) (fun u hu hF => ?_) (fun v28 => ?_)
      · clear hF
        refine doesG_un rfl ?_
        refine (does_move (u := (Iv (k : Int))) (ev rfl)).mono ?_; rintro _ _ ⟨rfl, rfl⟩
        exact ⟨rfl, Ext.refl _⟩
      refine RW_d _ rfl (fun v => by dsimp only [List.set]; try rfl) (fun u hu hF => ?_) (fun v29 => ?_)
      · have h21_ : v27 = (.slice p_b L_b.length q_b) := hF.1
        have h22_ : v28 = (Iv (k : Int)) := hF.2.1
        clear hF
        refine doesG_un rfl ?_
        obtain rfl := h21_
        obtain rfl := h22_
        refine (does_indexSl (R := RV3) (i := (k : Int)) (xs := L_b) (e := el2) Try.underlying30 Try.sizeOf47 (ev rfl) (ev rfl) (Sl.ext (Sl.ext hv_b RV3.mono (Ext.gr X13 E20)) RV3.mono hu) (by omega) hel2).mono ?_; rintro v u' ⟨b, of, cs, hv, hc, hR, hu'⟩; subst hu'
        exact ⟨⟨b, of, cs, hv, hc, hR⟩, Ext.refl _⟩
      refine RW_d _ rfl (fun v => by dsimp only [List.set]; try rfl) (fun u hu hF => ?_) (fun v30 => ?_)
      · have h23_ : PtrR RV3 u v29 el2 := hF.1
        clear hF
        refine doesG_un rfl ?_
        obtain ⟨b23_, o23_, _, rfl, hc23_, ⟨r23_1, r23_3, r23_5, rfl, h23_2, h23_4, h23_6⟩⟩ := h23_
        refine (does_loadAgg (cs := [(Fl r23_1), (Fl r23_3), (Fl r23_5)]) (ev rfl) Try.isAgg47 Try.sizeOf47 hc23_ rfl).mono ?_; rintro _ _ ⟨rfl, rfl⟩
        exact ⟨⟨[(Fl r23_1), (Fl r23_3), (Fl r23_5)], rfl, ⟨r23_1, r23_3, r23_5, rfl, (by first | assumption | rfl), (by first | assumption | rfl), (by first | assumption | rfl)⟩⟩, Ext.refl _⟩
      refine RW_d _ rfl (fun v => by dsimp only [List.set]; try rfl) (fun u hu hF => ?_) (fun v31 => ?_)
      · have h20_ : ∃ cs_1 : List Value, v26 = (.agg cs_1.toArray) ∧ RV3 w el1 cs_1 := hF.1
        have h24_ : ∃ cs_1 : List Value, v30 = (.agg cs_1.toArray) ∧ RV3 w el2 cs_1 := hF.2.1
        clear hF
        refine doesG_un rfl ?_
        obtain ⟨_, rfl, ⟨r20_1, r20_3, r20_5, rfl, h20_2, h20_4, h20_6⟩⟩ := h20_
        obtain ⟨_, rfl, ⟨r24_1, r24_3, r24_5, rfl, h24_2, h24_4, h24_6⟩⟩ := h24_
        refine (does_call (args := #[(.agg #[(Fl r20_1), (Fl r20_3), (Fl r20_5)]), (.agg #[(Fl r24_1), (Fl r24_3), (Fl r24_5)])]) cal42 (evs rfl) (c_laws_eqVector [(Fl r20_1), (Fl r20_3), (Fl r20_5)] el1 [(Fl r24_1), (Fl r24_3), (Fl r24_5)] el2 _ ⟨r20_1, r20_3, r20_5, rfl, (by assumption), (by assumption), (by assumption)⟩ ⟨r24_1, r24_3, r24_5, rfl, (by assumption), (by assumption), (by assumption)⟩)).mono ?_; rintro v u' ⟨hx, hv⟩
        exact ⟨hv.trans (by simp only [h20_2, h20_4, h20_6, h24_2, h24_4, h24_6]), hx⟩
      refine RW_d _ rfl (fun v => by dsimp only [List.set]; try rfl) (fun u hu hF => ?_) (fun v32 => ?_)
      · have h25_ : v31 = (Bo (sameV el1 el2)) := hF.1
        clear hF
        refine doesG_un rfl ?_
        obtain rfl := h25_
        refine (does_not (ev rfl)).mono ?_; rintro _ _ ⟨rfl, rfl⟩
        exact ⟨rfl, Ext.refl _⟩
      refine RW_fin ?_; intro w33 E34 hP35
      obtain ⟨⟨⟨⟨⟨⟨⟨⟨⟨⟨-, -⟩, -⟩, -⟩, -⟩, -⟩, -⟩, -⟩, -⟩, -⟩, q36⟩ := hP35
      have X37 := Ext.gr X22 E34
      have q36 : v32 = (Bo (!(sameV el1 el2))) := q36
      obtain rfl := q36
      show wpList _ _ _ _ (fr [_, _, _, _, _, _, _, _, _, _, _, _, _, _, _, _, _, _, _, _, _, _, _, _, _, _, _]) _
      refine wpList_nil (hK18 _ _ ?_)
      refine wp_cond_split (t := !(sameV el1 el2)) (ev rfl) (fun c38 => ?_) (fun c38 => ?_)
      · rw [Bool.not_eq_true'] at c38
        have c38' := c38
        refine wp_seq_k fun K39 hK39 => ?_
        refine wp_region_lit ?_
        refine q_is rfl rfl (does_assign (u := (Bo false)) (ev rfl)) (by dsimp only [List.set]; try rfl) ?_
        refine wpList_nil (hK39 _ _ ?_)
        refine wp_ret ?_
        dsimp only [Exit.then, Exit.inBlock]
        refine ret_val (v := (Bo false)) (res_T rfl (slot rfl)) X37 ?_
        try simp only [hel1, hel2] at c4 c16 c38
        have x40 : (sameX sameV L_a L_b) = false := by first | exact (sameX_len (by omega)) | exact (sameX_not (by omega) (by assumption) (by assumption) (by simp_all)) | exact (sameX_all (by omega) (by omega) hs)
        exact (by first | with_reducible rfl | rw [x40] | rfl)
      rw [Bool.not_eq_false'] at c38
      have c38' := c38
      refine wp_skip (hK17 _ _ ?_)
      refine wp_region_lit ?_
      refine q_is rfl rfl (does_move (u := (Iv (k : Int))) (ev rfl)) (by dsimp only [List.set]; try rfl) ?_
      refine q_is rfl rfl (does_iarith (p := (k : Int)) (q := 1) (r := (k : Int) + 1) (ev rfl) (ev rfl) (.inl ⟨rfl, (in_i64 (by omega) (by omega)).symm⟩)) (by dsimp only [List.set]; try rfl) ?_
      refine q_is rfl rfl (does_assign (u := (Iv ((k : Int) + 1))) (ev rfl)) (by dsimp only [List.set]; try rfl) ?_
      refine wpList_nil ?_
      refine ⟨k + 1, ⟨fun t => (([(.slice p_a L_a.length q_a), (.slice p_b L_b.length q_b), Ud, Ud, (u9 4), (Iv ((k : Int) + 1)), (.slice p_a L_a.length q_a), (Iv (L_a.length : Int)), (.slice p_b L_b.length q_b), (Iv (L_b.length : Int)), (Bo (icmp .neq (L_a.length : Int) (L_b.length : Int))), (Iv (k : Int)), (.slice p_a L_a.length q_a), (Iv (L_a.length : Int)), (Bo (icmp .lss (k : Int) (L_a.length : Int))), (Iv (k : Int)), (Iv ((k : Int) + 1)), v23, v24, v25, v26, v27, v28, v29, v30, v31, (Bo (!(sameV el1 el2)))] : List Value)[t]?).getD undef, ?_, (Ext.gr (Ext.gr E11 E20) E34), ?_⟩, ?_⟩
      · first | rfl | (simp only [Int.natCast_add, Int.natCast_one]; rfl)
      · exact ⟨by omega, SameXTo.step hs (by assumption) (by assumption) (by simp_all)⟩
      · omega
    have c16' := c16
    (try simp only [icmp, Bool.and_eq_true, Bool.or_eq_true, Bool.and_eq_false_iff, Bool.or_eq_false_iff, Bool.not_eq_true', Bool.not_eq_false', decide_eq_true_eq, decide_eq_false_iff_not, beq_iff_eq, bne_iff_ne, beq_eq_false_iff_ne, bne_eq_false_iff_eq] at c16')
    refine wp_exit ?_
    refine hK7 _ _ ?_
    refine wp_seq_k fun K41 hK41 => ?_
    refine wp_region_lit ?_
    refine q_is rfl rfl (does_assign (u := (Bo true)) (ev rfl)) (by dsimp only [List.set]; try rfl) ?_
    refine wpList_nil (hK41 _ _ ?_)
    refine wp_ret ?_
    refine ret_val (v := (Bo true)) (res_T rfl (slot rfl)) X13 ?_
    have x42 : (sameX sameV L_a L_b) = true := by first | exact (sameX_len (by omega)) | exact (sameX_not (by omega) (by assumption) (by assumption) (by simp_all)) | exact (sameX_all (by omega) (by omega) hs)
    exact (by first | with_reducible rfl | rw [x42] | rfl)

/- laws.eqInt64SS -/
theorem c_laws_eqInt64SS (a : Value) (L_a : List (List Int)) (b : Value) (L_b : List (List Int)) (w : World) (hv_a : Sl (RS RI 1) 1 w a L_a) (hv_b : Sl (RS RI 1) 1 w b L_b) : Gives Try.prog 31 #[a, b] w (fun v w' => v = (Bo (sameX eqIs L_a L_b))) := by
  have hlen_a := Sl.len hv_a; obtain ⟨p_a, q_a, rfl⟩ := Sl.shape hv_a
  have hlen_b := Sl.len hv_b; obtain ⟨p_b, q_b, rfl⟩ := Sl.shape hv_b
  refine enter [(.slice p_a L_a.length q_a), (.slice p_b L_b.length q_b), Ud, Ud, Ud, Ud, Ud, Ud, Ud, Ud, Ud, Ud, Ud, Ud, Ud, Ud, Ud, Ud, Ud, Ud, Ud, Ud, Ud, Ud, Ud, Ud, Ud] Try.func31 rfl Try.ntmps31 rfl ?_
  refine wp_seq_k fun K1 hK1 => ?_
  refine wp_region_lit ?_
  refine q_is rfl rfl (does_assign (u := (Bo false)) (ev rfl)) (by dsimp only [List.set]; try rfl) ?_
  refine wpList_nil (hK1 _ _ ?_)
  refine wp_seq_k fun K2 hK2 => ?_
  refine wp_seq_k fun K3 hK3 => ?_
  refine wp_region_lit ?_
  refine q_is rfl rfl (does_move (u := (.slice p_a L_a.length q_a)) (ev rfl)) (by dsimp only [List.set]; try rfl) ?_
  refine q_is rfl rfl (does_len_slice Try.underlying23 (ev rfl)) (by dsimp only [List.set]; try rfl) ?_
  refine q_is rfl rfl (does_move (u := (.slice p_b L_b.length q_b)) (ev rfl)) (by dsimp only [List.set]; try rfl) ?_
  refine q_is rfl rfl (does_len_slice Try.underlying23 (ev rfl)) (by dsimp only [List.set]; try rfl) ?_
  refine q_is rfl rfl (does_icmp (p := (L_a.length : Int)) (q := (L_b.length : Int)) (.inr (.inl rfl)) (ev rfl) (ev rfl)) (by dsimp only [List.set]; try rfl) ?_
  refine wpList_nil (hK3 _ _ ?_)
  refine wp_cond_split (t := icmp .neq (L_a.length : Int) (L_b.length : Int)) (ev rfl) (fun c4 => ?_) (fun c4 => ?_)
  · have c4' := c4
    (try simp only [icmp, Bool.and_eq_true, Bool.or_eq_true, Bool.and_eq_false_iff, Bool.or_eq_false_iff, Bool.not_eq_true', Bool.not_eq_false', decide_eq_true_eq, decide_eq_false_iff_not, beq_iff_eq, bne_iff_ne, beq_eq_false_iff_ne, bne_eq_false_iff_eq] at c4')
    refine wp_seq_k fun K5 hK5 => ?_
    refine wp_region_lit ?_
    refine q_is rfl rfl (does_assign (u := (Bo false)) (ev rfl)) (by dsimp only [List.set]; try rfl) ?_
    refine wpList_nil (hK5 _ _ ?_)
    refine wp_ret ?_
    dsimp only [Exit.then, Exit.inBlock]
    refine ret_val (v := (Bo false)) (res_T rfl (slot rfl)) (Ext.refl w) ?_
    have x6 : (sameX eqIs L_a L_b) = false := by first | exact (sameX_len (by omega)) | exact (sameX_not (by omega) (by assumption) (by assumption) (by show sameX eqI _ _ = _; assumption)) | exact (sameX_all (by omega) (by omega) hs)
    exact (by first | with_reducible rfl | rw [x6] | rfl)
  have c4' := c4
  (try simp only [icmp, Bool.and_eq_true, Bool.or_eq_true, Bool.and_eq_false_iff, Bool.or_eq_false_iff, Bool.not_eq_true', Bool.not_eq_false', decide_eq_true_eq, decide_eq_false_iff_not, beq_iff_eq, bne_iff_ne, beq_eq_false_iff_ne, bne_eq_false_iff_eq] at c4')
  refine wp_skip (hK2 _ _ ?_)
  refine wp_seq_k fun K7 hK7 => ?_
  refine wp_seq_k fun K8 hK8 => ?_
  refine wp_region_lit ?_
  refine q_is rfl rfl (does_assign (u := (Iv 0)) (ev rfl)) (by dsimp only [List.set]; try rfl) ?_
  refine wpList_nil (hK8 _ _ ?_)
  refine wp_block ?_
  refine loop_ghost (σ := Nat) (fun k a w' => ∃ u9 : Nat → Value, a = fr [(.slice p_a L_a.length q_a), (.slice p_b L_b.length q_b), Ud, Ud, (u9 4), (Iv (k : Int)), (.slice p_a L_a.length q_a), (Iv (L_a.length : Int)), (.slice p_b L_b.length q_b), (Iv (L_b.length : Int)), (Bo (icmp .neq (L_a.length : Int) (L_b.length : Int))), (u9 11), (u9 12), (u9 13), (u9 14), (u9 15), (u9 16), (u9 17), (u9 18), (u9 19), (u9 20), (u9 21), (u9 22), (u9 23), (u9 24), (u9 25), (u9 26)] ∧ Ext w w' ∧ (k ≤ L_a.length ∧ SameXTo eqIs L_a L_b k)) (fun k => L_a.length - k) 0 ?_ ?_
  · refine ⟨fun t => (([(.slice p_a L_a.length q_a), (.slice p_b L_b.length q_b), Ud, Ud, (Bo false), (Iv 0), (.slice p_a L_a.length q_a), (Iv (L_a.length : Int)), (.slice p_b L_b.length q_b), (Iv (L_b.length : Int)), (Bo (icmp .neq (L_a.length : Int) (L_b.length : Int))), Ud, Ud, Ud, Ud, Ud, Ud, Ud, Ud, Ud, Ud, Ud, Ud, Ud, Ud, Ud, Ud] : List Value)[t]?).getD undef, rfl, Ext.refl _, ?_⟩
    exact ⟨Nat.zero_le _, SameXTo.zero⟩
  · rintro k a w10 ⟨u9, rfl, E11, ⟨hk, hs⟩⟩
    have X13 := Ext.gr (Ext.refl w) E11
    refine wp_seq_k fun K14 hK14 => ?_
    refine wp_seq_k fun K15 hK15 => ?_
    refine wp_region_lit ?_
    refine q_is rfl rfl (does_move (u := (Iv (k : Int))) (ev rfl)) (by dsimp only [List.set]; try rfl) ?_
    refine q_is rfl rfl (does_move (u := (.slice p_a L_a.length q_a)) (ev rfl)) (by dsimp only [List.set]; try rfl) ?_
    refine q_is rfl rfl (does_len_slice Try.underlying23 (ev rfl)) (by dsimp only [List.set]; try rfl) ?_
    refine q_is rfl rfl (does_icmp (p := (k : Int)) (q := (L_a.length : Int)) (.inr (.inr (.inl rfl))) (ev rfl) (ev rfl)) (by dsimp only [List.set]; try rfl) ?_
    refine wpList_nil (hK15 _ _ ?_)
    refine wp_cond_split (t := icmp .lss (k : Int) (L_a.length : Int)) (ev rfl) (fun c16 => ?_) (fun c16 => ?_)
    · have c16' := c16
      (try simp only [icmp, Bool.and_eq_true, Bool.or_eq_true, Bool.and_eq_false_iff, Bool.or_eq_false_iff, Bool.not_eq_true', Bool.not_eq_false', decide_eq_true_eq, decide_eq_false_iff_not, beq_iff_eq, bne_iff_ne, beq_eq_false_iff_ne, bne_eq_false_iff_eq] at c16')
      refine wp_skip (hK14 _ _ ?_)
      refine wp_seq_k fun K17 hK17 => ?_
      refine wp_block ?_
      refine wp_seq_k fun K18 hK18 => ?_
      obtain ⟨el1, hel1⟩ : ∃ e, L_a[k]? = some e := ⟨_, List.getElem?_eq_getElem (by omega)⟩
      obtain ⟨el2, hel2⟩ : ∃ e, L_b[k]? = some e := ⟨_, List.getElem?_eq_getElem (by omega)⟩
      refine region_draw (
        [Fact.pure [] (fun v => v = (.slice p_a L_a.length q_a)),
    Fact.pure [] (fun v => v = (Iv (k : Int))),
    Fact.mem [17, 18] (fun v w' => PtrR (RS RI 1) w' v el1) (by intro v w1 w2 hx h; exact h.ext (RS.mono RI.mono) hx),
    Fact.mem [19] (fun v w' => ∃ y_1 : Value, v = y_1 ∧ Sl RI 1 w' y_1 el1) (by rintro v w1 w2 hx ⟨z1, rfl, k0⟩; exact ⟨_, rfl, (k0.ext RI.mono hx)⟩),
    Fact.pure [] (fun v => v = (.slice p_b L_b.length q_b)),
    Fact.pure [] (fun v => v = (Iv (k : Int))),
    Fact.mem [21, 22] (fun v w' => PtrR (RS RI 1) w' v el2) (by intro v w1 w2 hx h; exact h.ext (RS.mono RI.mono) hx),
    Fact.mem [23] (fun v w' => ∃ y_1 : Value, v = y_1 ∧ Sl RI 1 w' y_1 el2) (by rintro v w1 w2 hx ⟨z1, rfl, k0⟩; exact ⟨_, rfl, (k0.ext RI.mono hx)⟩),
    Fact.pure [20, 24] (fun v => v = (Bo (sameX eqI el1 el2))),
    Fact.pure [25] (fun v => v = (Bo (!(sameX eqI el1 el2))))]) mixed (by kernel_rfl) (by intro _ _ d _ _ h; cases d <;> exact h) ?_
      obtain ⟨w19, hw21⟩ : ∃ w', w' = World.drew w10 := ⟨_, rfl⟩; rw [← hw21]; have E20 : Ext w10 w19 := by rw [hw21]; exact Ext.draw _
      clear hw21
      have X22 := Ext.gr X13 E20
      refine RW_d _ rfl (fun v => by dsimp only [List.set]; try rfl) (fun u hu hF => ?_) (fun v23 => ?_)
      · clear hF
        refine doesG_un rfl ?_
        refine (does_move (u := (.slice p_a L_a.length q_a)) (ev rfl)).mono ?_; rintro _ _ ⟨rfl, rfl⟩
        exact ⟨rfl, Ext.refl _⟩
      refine RW_d _ rfl (fun v => by dsimp only [List.set]; try rfl) (fun u hu hF => ?_) (fun v24 => ?_)
      · clear hF
        refine doesG_un rfl ?_
        refine (does_move (u := (Iv (k : Int))) (ev rfl)).mono ?_; rintro _ _ ⟨rfl, rfl⟩
        exact ⟨rfl, Ext.refl _⟩
      refine RW_d _ rfl (fun v => by dsimp only [List.set]; try rfl) (fun u hu hF => ?_) (fun v25 => ?_)
      · have h17_ : v23 = (.slice p_a L_a.length q_a) := hF.1
        have h18_ : v24 = (Iv (k : Int)) := hF.2.1
        clear hF
        refine doesG_un rfl ?_
        obtain rfl := h17_
        obtain rfl := h18_
        refine (does_indexSl (R := (RS RI 1)) (i := (k : Int)) (xs := L_a) (e := el1) Try.underlying23 Try.sizeOf27 (ev rfl) (ev rfl) (Sl.ext (Sl.ext hv_a (RS.mono RI.mono) (Ext.gr X13 E20)) (RS.mono RI.mono) hu) (by omega) hel1).mono ?_; rintro v u' ⟨b, of, cs, hv, hc, hR, hu'⟩; subst hu'
        exact ⟨⟨b, of, cs, hv, hc, hR⟩, Ext.refl _⟩
      refine RW_d _ rfl (fun v => by dsimp only [List.set]; try rfl) (fun u hu hF => ?_) (fun v26 => ?_)
      · have h19_ : PtrR (RS RI 1) u v25 el1 := hF.1
        clear hF
        refine doesG_un rfl ?_
        obtain ⟨b19_, o19_, _, rfl, hc19_, ⟨y19_1, rfl, h19_2⟩⟩ := h19_
        have hh19_2 := h19_2; obtain ⟨p19_3, q19_4, rfl⟩ := Sl.shape h19_2
        refine (does_load (u := (.slice p19_3 el1.length q19_4)) (ev rfl) Try.isAgg27 (Cells.at hc19_ 0 rfl)).mono ?_; rintro _ _ ⟨rfl, rfl⟩
        exact ⟨⟨(.slice p19_3 el1.length q19_4), rfl, (by assumption)⟩, Ext.refl _⟩
      refine RW_d _ rfl (fun v => by dsimp only [List.set]; try rfl) (fun u hu hF => ?_) (fun v27 => ?_)
      · clear hF
        refine doesG_un rfl ?_
        refine (does_move (u := (.slice p_b L_b.length q_b)) (ev rfl)).mono ?_; rintro _ _ ⟨rfl, rfl⟩
        exact ⟨rfl, Ext.refl _⟩
      refine RW_d _ rfl (fun v => by dsimp only [List.set]; try rfl) (fun u hu hF => ?_) (fun v28 => ?_)
      · clear hF
        refine doesG_un rfl ?_
        refine (does_move (u := (Iv (k : Int))) (ev rfl)).mono ?_; rintro _ _ ⟨rfl, rfl⟩
        exact ⟨rfl, Ext.refl _⟩
      refine RW_d _ rfl (fun v => by dsimp only [List.set]; try rfl) (fun u hu hF => ?_) (fun v29 => ?_)
      · have h21_ : v27 = (.slice p_b L_b.length q_b) := hF.1
        have h22_ : v28 = (Iv (k : Int)) := hF.2.1
        clear hF
        refine doesG_un rfl ?_
        obtain rfl := h21_
        obtain rfl := h22_
        refine (does_indexSl (R := (RS RI 1)) (i := (k : Int)) (xs := L_b) (e := el2) Try.underlying23 Try.sizeOf27 (ev rfl) (ev rfl) (Sl.ext (Sl.ext hv_b (RS.mono RI.mono) (Ext.gr X13 E20)) (RS.mono RI.mono) hu) (by omega) hel2).mono ?_; rintro v u' ⟨b, of, cs, hv, hc, hR, hu'⟩; subst hu'
        exact ⟨⟨b, of, cs, hv, hc, hR⟩, Ext.refl _⟩
      refine RW_d _ rfl (fun v => by dsimp only [List.set]; try rfl) (fun u hu hF => ?_) (fun v30 => ?_)
      · have h23_ : PtrR (RS RI 1) u v29 el2 := hF.1
        clear hF
        refine doesG_un rfl ?_
        obtain ⟨b23_, o23_, _, rfl, hc23_, ⟨y23_1, rfl, h23_2⟩⟩ := h23_
        have hh23_2 := h23_2; obtain ⟨p23_3, q23_4, rfl⟩ := Sl.shape h23_2
        refine (does_load (u := (.slice p23_3 el2.length q23_4)) (ev rfl) Try.isAgg27 (Cells.at hc23_ 0 rfl)).mono ?_; rintro _ _ ⟨rfl, rfl⟩
        exact ⟨⟨(.slice p23_3 el2.length q23_4), rfl, (by assumption)⟩, Ext.refl _⟩
      refine RW_d _ rfl (fun v => by dsimp only [List.set]; try rfl) (fun u hu hF => ?_) (fun v31 => ?_)
      · have h20_ : ∃ y_1 : Value, v26 = y_1 ∧ Sl RI 1 u y_1 el1 := hF.1
        have h24_ : ∃ y_1 : Value, v30 = y_1 ∧ Sl RI 1 u y_1 el2 := hF.2.1
        clear hF
        refine doesG_un rfl ?_
        obtain ⟨y20_1, rfl, h20_2⟩ := h20_
        have hh20_2 := h20_2; obtain ⟨p20_3, q20_4, rfl⟩ := Sl.shape h20_2
        obtain ⟨y24_1, rfl, h24_2⟩ := h24_
        have hh24_2 := h24_2; obtain ⟨p24_3, q24_4, rfl⟩ := Sl.shape h24_2
        refine (does_call (args := #[(.slice p20_3 el1.length q20_4), (.slice p24_3 el2.length q24_4)]) cal9 (evs rfl) (c_laws_eqInt64S (.slice p20_3 el1.length q20_4) el1 (.slice p24_3 el2.length q24_4) el2 _ hh20_2 hh24_2)).mono ?_; rintro v u' ⟨hx, hv⟩
        exact ⟨hv, hx⟩
      refine RW_d _ rfl (fun v => by dsimp only [List.set]; try rfl) (fun u hu hF => ?_) (fun v32 => ?_)
      · have h25_ : v31 = (Bo (sameX eqI el1 el2)) := hF.1
        clear hF
        refine doesG_un rfl ?_
        obtain rfl := h25_
        refine (does_not (ev rfl)).mono ?_; rintro _ _ ⟨rfl, rfl⟩
        exact ⟨rfl, Ext.refl _⟩
      refine RW_fin ?_; intro w33 E34 hP35
      obtain ⟨⟨⟨⟨⟨⟨⟨⟨⟨⟨-, -⟩, -⟩, -⟩, -⟩, -⟩, -⟩, -⟩, -⟩, -⟩, q36⟩ := hP35
      have X37 := Ext.gr X22 E34
      have q36 : v32 = (Bo (!(sameX eqI el1 el2))) := q36
      obtain rfl := q36
      show wpList _ _ _ _ (fr [_, _, _, _, _, _, _, _, _, _, _, _, _, _, _, _, _, _, _, _, _, _, _, _, _, _, _]) _
      refine wpList_nil (hK18 _ _ ?_)
      refine wp_cond_split (t := !(sameX eqI el1 el2)) (ev rfl) (fun c38 => ?_) (fun c38 => ?_)
      · rw [Bool.not_eq_true'] at c38
        have c38' := c38
        refine wp_seq_k fun K39 hK39 => ?_
        refine wp_region_lit ?_
        refine q_is rfl rfl (does_assign (u := (Bo false)) (ev rfl)) (by dsimp only [List.set]; try rfl) ?_
        refine wpList_nil (hK39 _ _ ?_)
        refine wp_ret ?_
        dsimp only [Exit.then, Exit.inBlock]
        refine ret_val (v := (Bo false)) (res_T rfl (slot rfl)) X37 ?_
        try simp only [hel1, hel2] at c4 c16 c38
        have x40 : (sameX eqIs L_a L_b) = false := by first | exact (sameX_len (by omega)) | exact (sameX_not (by omega) (by assumption) (by assumption) (by show sameX eqI _ _ = _; assumption)) | exact (sameX_all (by omega) (by omega) hs)
        exact (by first | with_reducible rfl | rw [x40] | rfl)
      rw [Bool.not_eq_false'] at c38
      have c38' := c38
      refine wp_skip (hK17 _ _ ?_)
      refine wp_region_lit ?_
      refine q_is rfl rfl (does_move (u := (Iv (k : Int))) (ev rfl)) (by dsimp only [List.set]; try rfl) ?_
      refine q_is rfl rfl (does_iarith (p := (k : Int)) (q := 1) (r := (k : Int) + 1) (ev rfl) (ev rfl) (.inl ⟨rfl, (in_i64 (by omega) (by omega)).symm⟩)) (by dsimp only [List.set]; try rfl) ?_
      refine q_is rfl rfl (does_assign (u := (Iv ((k : Int) + 1))) (ev rfl)) (by dsimp only [List.set]; try rfl) ?_
      refine wpList_nil ?_
      refine ⟨k + 1, ⟨fun t => (([(.slice p_a L_a.length q_a), (.slice p_b L_b.length q_b), Ud, Ud, (u9 4), (Iv ((k : Int) + 1)), (.slice p_a L_a.length q_a), (Iv (L_a.length : Int)), (.slice p_b L_b.length q_b), (Iv (L_b.length : Int)), (Bo (icmp .neq (L_a.length : Int) (L_b.length : Int))), (Iv (k : Int)), (.slice p_a L_a.length q_a), (Iv (L_a.length : Int)), (Bo (icmp .lss (k : Int) (L_a.length : Int))), (Iv (k : Int)), (Iv ((k : Int) + 1)), v23, v24, v25, v26, v27, v28, v29, v30, v31, (Bo (!(sameX eqI el1 el2)))] : List Value)[t]?).getD undef, ?_, (Ext.gr (Ext.gr E11 E20) E34), ?_⟩, ?_⟩
      · first | rfl | (simp only [Int.natCast_add, Int.natCast_one]; rfl)
      · exact ⟨by omega, SameXTo.step hs (by assumption) (by assumption) (by show sameX eqI _ _ = _; assumption)⟩
      · omega
    have c16' := c16
    (try simp only [icmp, Bool.and_eq_true, Bool.or_eq_true, Bool.and_eq_false_iff, Bool.or_eq_false_iff, Bool.not_eq_true', Bool.not_eq_false', decide_eq_true_eq, decide_eq_false_iff_not, beq_iff_eq, bne_iff_ne, beq_eq_false_iff_ne, bne_eq_false_iff_eq] at c16')
    refine wp_exit ?_
    refine hK7 _ _ ?_
    refine wp_seq_k fun K41 hK41 => ?_
    refine wp_region_lit ?_
    refine q_is rfl rfl (does_assign (u := (Bo true)) (ev rfl)) (by dsimp only [List.set]; try rfl) ?_
    refine wpList_nil (hK41 _ _ ?_)
    refine wp_ret ?_
    refine ret_val (v := (Bo true)) (res_T rfl (slot rfl)) X13 ?_
    have x42 : (sameX eqIs L_a L_b) = true := by first | exact (sameX_len (by omega)) | exact (sameX_not (by omega) (by assumption) (by assumption) (by show sameX eqI _ _ = _; assumption)) | exact (sameX_all (by omega) (by omega) hs)
    exact (by first | with_reducible rfl | rw [x42] | rfl)

end Go.Proofs.Ytlfpeihlfmdmdaa
