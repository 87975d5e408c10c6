/- contracts of functions, each walked once -/
import Derived.Test.YthffielpjjggeaaC4
namespace Go.Proofs.Ythffielpjjggeaa
open Go Go.RowKit
set_option maxRecDepth 100000
set_option maxHeartbeats 3200000
set_option linter.unusedVariables false
set_option linter.unusedSimpArgs false

/- laws.sameFloat -/
theorem c_laws_sameFloat (x : Nat) (y : Nat) (w : World) : Gives Try.prog 19 #[(Fd x), (Fd y)] w (fun v w' => v = (Bo (sameF (cf .f64 x) (cf .f64 y)))) := by
  refine enter [(Fd x), (Fd y), Ud, Ud, Ud, Ud, Ud, Ud, Ud, Ud, Ud, Ud, Ud, Ud, Ud, Ud, Ud, Ud, Ud, Ud, Ud, Ud, Ud, Ud, Ud, Ud, Ud, Ud, Ud, Ud, Ud, Ud, Ud, Ud, Ud, Ud, Ud] Try.func19 rfl Try.ntmps19 rfl ?_
  refine wp_seq_k fun K1 hK1 => ?_
  refine wp_region_lit ?_
  refine q_is rfl rfl (does_assign (u := (Bo false)) (ev rfl)) (by dsimp only [List.set]; try rfl) ?_
  refine wpList_nil (hK1 _ _ ?_)
  refine wp_seq_k fun K2 hK2 => ?_
  refine wp_seq_k fun K3 hK3 => ?_
  obtain ⟨β1, hβ1⟩ : ∃ b : Bool, b = (fcmp .neq (ford .f64 (cf .f64 x) (cf .f64 x))) := ⟨_, rfl⟩
  obtain ⟨β2, hβ2⟩ : ∃ b : Bool, b = (fcmp .neq (ford .f64 (cf .f64 y) (cf .f64 y))) := ⟨_, rfl⟩
  refine region_text (
    [Fact.pure [] (fun v => v = (Fd x)),
    Fact.pure [] (fun v => v = (Fd x)),
    Fact.pure [5, 6] (fun v => v = (Bo β1)),
    Fact.pure [7] (fun v => v = (Bo β1)),
    Fact.pure [8] (fun v => β1 = false → v = (Fd y)),
    Fact.pure [8] (fun v => β1 = false → v = (Fd y)),
    Fact.pure [9, 10, 8] (fun v => β1 = false → v = (Bo β2)),
    Fact.pure [8, 11] (fun v => v = (Bo (β1 || β2)))]) (by simp [Fact.pure, Fact.mem]) ?_
  refine RW_d _ rfl (fun v => by dsimp only [List.set]; try rfl) (fun u hu hF => ?_) (fun v4 => ?_)
  · clear hF
    refine doesG_un rfl ?_
    refine (does_move (u := (Fd x)) (ev rfl)).mono ?_; rintro _ _ ⟨rfl, rfl⟩
    exact ⟨rfl, Ext.refl _⟩
  refine RW_d _ rfl (fun v => by dsimp only [List.set]; try rfl) (fun u hu hF => ?_) (fun v5 => ?_)
  · clear hF
    refine doesG_un rfl ?_
    refine (does_move (u := (Fd x)) (ev rfl)).mono ?_; rintro _ _ ⟨rfl, rfl⟩
    exact ⟨rfl, Ext.refl _⟩
  refine RW_d _ rfl (fun v => by dsimp only [List.set]; try rfl) (fun u hu hF => ?_) (fun v6 => ?_)
  · have h5_ : v4 = (Fd x) := hF.1
    have h6_ : v5 = (Fd x) := hF.2.1
    clear hF
    refine doesG_un rfl ?_
    obtain rfl := h5_
    obtain rfl := h6_
    refine (does_fcmp (.inr (.inl rfl)) (ev rfl) (ev rfl)).mono ?_; rintro _ _ ⟨rfl, rfl⟩
    exact ⟨(by first | rfl | (show _ = _; simp only [hβ1]; done) | (show _ = _; simp only [hβ1]; rfl)), Ext.refl _⟩
  refine RW_d _ rfl (fun v => by dsimp only [List.set]; try rfl) (fun u hu hF => ?_) (fun v7 => ?_)
  · have h7_ : v6 = (Bo β1) := hF.1
    clear hF
    refine doesG_un rfl ?_
    obtain rfl := h7_
    refine (does_move (u := (Bo β1)) (ev rfl)).mono ?_; rintro _ _ ⟨rfl, rfl⟩
    exact ⟨rfl, Ext.refl _⟩
  refine RW_d _ rfl (fun v => by dsimp only [List.set]; try rfl) (fun u hu hF => ?_) (fun v8 => ?_)
  · have h8_ : v7 = (Bo β1) := hF.1
    clear hF
    obtain rfl := h8_
    refine doesG_g (b := β1) rfl (yld rfl rfl) (fun hg1 => ?_) (fun hc => ⟨fun hg1 => absurd hg1 hc, Ext.refl _⟩)
    refine (does_move (u := (Fd y)) (ev rfl)).mono ?_; rintro _ _ ⟨rfl, rfl⟩
    exact ⟨fun _ => rfl, Ext.refl _⟩
  refine RW_d _ rfl (fun v => by dsimp only [List.set]; try rfl) (fun u hu hF => ?_) (fun v9 => ?_)
  · have h8_ : v7 = (Bo β1) := hF.1
    clear hF
    obtain rfl := h8_
    refine doesG_g (b := β1) rfl (yld rfl rfl) (fun hg1 => ?_) (fun hc => ⟨fun hg1 => absurd hg1 hc, Ext.refl _⟩)
    refine (does_move (u := (Fd y)) (ev rfl)).mono ?_; rintro _ _ ⟨rfl, rfl⟩
    exact ⟨fun _ => rfl, Ext.refl _⟩
  refine RW_d _ rfl (fun v => by dsimp only [List.set]; try rfl) (fun u hu hF => ?_) (fun v10 => ?_)
  · have h9_ : β1 = false → v8 = (Fd y) := hF.1
    have h10_ : β1 = false → v9 = (Fd y) := hF.2.1
    have h8_ : v7 = (Bo β1) := hF.2.2.1
    clear hF
    obtain rfl := h8_
    refine doesG_g (b := β1) rfl (yld rfl rfl) (fun hg1 => ?_) (fun hc => ⟨fun hg1 => absurd hg1 hc, Ext.refl _⟩)
    obtain rfl := h9_ hg1
    obtain rfl := h10_ hg1
    refine (does_fcmp (.inr (.inl rfl)) (ev rfl) (ev rfl)).mono ?_; rintro _ _ ⟨rfl, rfl⟩
    exact ⟨fun _ => (by first | rfl | (show _ = _; simp only [hβ2]; done) | (show _ = _; simp only [hβ2]; rfl)), Ext.refl _⟩
  refine RW_d _ rfl (fun v => by dsimp only [List.set]; try rfl) (fun u hu hF => ?_) (fun v11 => ?_)
  · have h8_ : v7 = (Bo β1) := hF.1
    have h11_ : β1 = false → v10 = (Bo β2) := hF.2.1
    clear hF
    refine doesG_un rfl ?_
    skip
    obtain rfl := h8_
    refine (does_pick (b := β1) (u := (Bo true)) (v := v10) (ev rfl) (ev rfl) (ev rfl)).mono ?_; rintro _ _ ⟨rfl, rfl⟩; refine ⟨?_, Ext.refl _⟩; skip
    cases hbb : β1
    all_goals first | (show _ = _; simp only [↓reduceIte, Bool.true_and, Bool.false_and, Bool.true_or, Bool.false_or, Bool.false_eq_true]; done) | (have e_ := h11_ hbb; subst e_; show _ = _; simp only [↓reduceIte, Bool.true_and, Bool.false_and, Bool.true_or, Bool.false_or, Bool.false_eq_true]; done) | rfl | (have e_ := h11_ hbb; subst e_; rfl) | (simp [hbb] at h11_ ⊢; first | done | rfl | (subst h11_; rfl) | simp_all) | (simp [hbb] at h11_ ⊢; done)
  refine RW_fin ?_; intro w12 E13 hP14
  obtain ⟨⟨⟨⟨⟨⟨⟨⟨-, -⟩, -⟩, -⟩, -⟩, -⟩, -⟩, -⟩, q15⟩ := hP14
  have X16 := Ext.gr (Ext.refl w) E13
  have q15 : v11 = (Bo (β1 || β2)) := q15
  obtain rfl := q15
  show wpList _ _ _ _ (fr [_, _, _, _, _, _, _, _, _, _, _, _, _, _, _, _, _, _, _, _, _, _, _, _, _, _, _, _, _, _, _, _, _, _, _, _, _]) _
  refine wpList_nil (hK3 _ _ ?_)
  refine wp_cond_split (t := β1 || β2) (ev rfl) (fun c17 => ?_) (fun c17 => ?_)
  · have c17' := c17
    (try simp only [hβ1, hβ2] at c17')
    (try simp only [icmp, Bool.and_eq_true, Bool.or_eq_true, Bool.and_eq_false_iff, Bool.or_eq_false_iff, Bool.not_eq_true', Bool.not_eq_false', decide_eq_true_eq, decide_eq_false_iff_not, beq_iff_eq, bne_iff_ne, beq_eq_false_iff_ne, bne_eq_false_iff_eq] at c17')
    refine wp_seq_k fun K18 hK18 => ?_
    obtain ⟨β3, hβ3⟩ : ∃ b : Bool, b = (fcmp .neq (ford .f64 (cf .f64 x) (cf .f64 x))) := ⟨_, rfl⟩
    obtain ⟨β4, hβ4⟩ : ∃ b : Bool, b = (fcmp .neq (ford .f64 (cf .f64 y) (cf .f64 y))) := ⟨_, rfl⟩
    refine region_text (
      [Fact.pure [] (fun v => v = (Fd x)),
    Fact.pure [] (fun v => v = (Fd x)),
    Fact.pure [13, 14] (fun v => v = (Bo β3)),
    Fact.pure [15] (fun v => v = (Bo β3)),
    Fact.pure [16] (fun v => β3 = true → v = (Fd y)),
    Fact.pure [16] (fun v => β3 = true → v = (Fd y)),
    Fact.pure [17, 18, 16] (fun v => β3 = true → v = (Bo β4)),
    Fact.pure [16, 19] (fun v => v = (Bo (β3 && β4)))]) (by simp [Fact.pure, Fact.mem]) ?_
    refine RW_d _ rfl (fun v => by dsimp only [List.set]; try rfl) (fun u hu hF => ?_) (fun v19 => ?_)
    · clear hF
      refine doesG_un rfl ?_
      refine (does_move (u := (Fd x)) (ev rfl)).mono ?_; rintro _ _ ⟨rfl, rfl⟩
      exact ⟨rfl, Ext.refl _⟩
    refine RW_d _ rfl (fun v => by dsimp only [List.set]; try rfl) (fun u hu hF => ?_) (fun v20 => ?_)
    · clear hF
      refine doesG_un rfl ?_
      refine (does_move (u := (Fd x)) (ev rfl)).mono ?_; rintro _ _ ⟨rfl, rfl⟩
      exact ⟨rfl, Ext.refl _⟩
    refine RW_d _ rfl (fun v => by dsimp only [List.set]; try rfl) (fun u hu hF => ?_) (fun v21 => ?_)
    · have h13_ : v19 = (Fd x) := hF.1
      have h14_ : v20 = (Fd x) := hF.2.1
      clear hF
      refine doesG_un rfl ?_
      obtain rfl := h13_
      obtain rfl := h14_
      refine (does_fcmp (.inr (.inl rfl)) (ev rfl) (ev rfl)).mono ?_; rintro _ _ ⟨rfl, rfl⟩
      exact ⟨(by first | rfl | (show _ = _; simp only [hβ3]; done) | (show _ = _; simp only [hβ3]; rfl)), Ext.refl _⟩
    refine RW_d _ rfl (fun v => by dsimp only [List.set]; try rfl) (fun u hu hF => ?_) (fun v22 => ?_)
    · have h15_ : v21 = (Bo β3) := hF.1
      clear hF
      refine doesG_un rfl ?_
      obtain rfl := h15_
      refine (does_move (u := (Bo β3)) (ev rfl)).mono ?_; rintro _ _ ⟨rfl, rfl⟩
      exact ⟨rfl, Ext.refl _⟩
    refine RW_d _ rfl (fun v => by dsimp only [List.set]; try rfl) (fun u hu hF => ?_) (fun v23 => ?_)
    · have h16_ : v22 = (Bo β3) := hF.1
      clear hF
      obtain rfl := h16_
      refine doesG_g (b := β3) rfl (yld rfl rfl) (fun hg1 => ?_) (fun hc => ⟨fun hg1 => absurd hg1 hc, Ext.refl _⟩)
      refine (does_move (u := (Fd y)) (ev rfl)).mono ?_; rintro _ _ ⟨rfl, rfl⟩
      exact ⟨fun _ => rfl, Ext.refl _⟩
    refine RW_d _ rfl (fun v => by dsimp only [List.set]; try rfl) (fun u hu hF => ?_) (fun v24 => ?_)
    · have h16_ : v22 = (Bo β3) := hF.1
      clear hF
      obtain rfl := h16_
      refine doesG_g (b := β3) rfl (yld rfl rfl) (fun hg1 => ?_) (fun hc => ⟨fun hg1 => absurd hg1 hc, Ext.refl _⟩)
      refine (does_move (u := (Fd y)) (ev rfl)).mono ?_; rintro _ _ ⟨rfl, rfl⟩
      exact ⟨fun _ => rfl, Ext.refl _⟩
    refine RW_d _ rfl (fun v => by dsimp only [List.set]; try rfl) (fun u hu hF => ?_) (fun v25 => ?_)
    · have h17_ : β3 = true → v23 = (Fd y) := hF.1
      have h18_ : β3 = true → v24 = (Fd y) := hF.2.1
      have h16_ : v22 = (Bo β3) := hF.2.2.1
      clear hF
      obtain rfl := h16_
      refine doesG_g (b := β3) rfl (yld rfl rfl) (fun hg1 => ?_) (fun hc => ⟨fun hg1 => absurd hg1 hc, Ext.refl _⟩)
      obtain rfl := h17_ hg1
      obtain rfl := h18_ hg1
      refine (does_fcmp (.inr (.inl rfl)) (ev rfl) (ev rfl)).mono ?_; rintro _ _ ⟨rfl, rfl⟩
      exact ⟨fun _ => (by first | rfl | (show _ = _; simp only [hβ4]; done) | (show _ = _; simp only [hβ4]; rfl)), Ext.refl _⟩
    refine RW_d _ rfl (fun v => by dsimp only [List.set]; try rfl) (fun u hu hF => ?_) (fun v26 => ?_)
    · have h16_ : v22 = (Bo β3) := hF.1
      have h19_ : β3 = true → v25 = (Bo β4) := hF.2.1
      clear hF
      refine doesG_un rfl ?_
      skip
      obtain rfl := h16_
      refine (does_pick (b := β3) (u := v25) (v := (Bo false)) (ev rfl) (ev rfl) (ev rfl)).mono ?_; rintro _ _ ⟨rfl, rfl⟩; refine ⟨?_, Ext.refl _⟩; skip
      cases hbb : β3
      all_goals first | (show _ = _; simp only [↓reduceIte, Bool.true_and, Bool.false_and, Bool.true_or, Bool.false_or, Bool.false_eq_true]; done) | (have e_ := h19_ hbb; subst e_; show _ = _; simp only [↓reduceIte, Bool.true_and, Bool.false_and, Bool.true_or, Bool.false_or, Bool.false_eq_true]; done) | rfl | (have e_ := h19_ hbb; subst e_; rfl) | (simp [hbb] at h19_ ⊢; first | done | rfl | (subst h19_; rfl) | simp_all) | (simp [hbb] at h19_ ⊢; done)
    refine RW_fin ?_; intro w27 E28 hP29
    obtain ⟨⟨⟨⟨⟨⟨⟨⟨-, -⟩, -⟩, -⟩, -⟩, -⟩, -⟩, -⟩, q30⟩ := hP29
    have X31 := Ext.gr X16 E28
    have q30 : v26 = (Bo (β3 && β4)) := q30
    obtain rfl := q30
    show wpList _ _ _ _ (fr [_, _, _, _, _, _, _, _, _, _, _, _, _, _, _, _, _, _, _, _, _, _, _, _, _, _, _, _, _, _, _, _, _, _, _, _, _]) _
    refine q_is rfl rfl (does_assign (u := (Bo (β3 && β4))) (ev rfl)) (by dsimp only [List.set]; try rfl) ?_
    refine wpList_nil (hK18 _ _ ?_)
    refine wp_ret ?_
    dsimp only [Exit.then, Exit.inBlock]
    refine ret_val (v := (Bo (β3 && β4))) (res_T rfl (slot rfl)) X31 ?_
    try simp only [hβ1, hβ2, hβ3, hβ4] at c17
    have x32 : (sameF (cf .f64 x) (cf .f64 y)) = (β3 && β4) := by first | with_reducible rfl | (simp only [sameF, hβ1, hβ2, hβ3, hβ4, c17]; done) | (simp [sameF, hβ1, hβ2, hβ3, hβ4, c17]; done) | (revert c17; simp +contextual [sameF, hβ1, hβ2, hβ3, hβ4]; done) | (rcases c17' with hh | hh <;> simp only [hh, sameF, hβ1, hβ2, hβ3, hβ4, c17]; done) | (rcases c17' with hh | hh <;> simp_all [sameF]; done) | (rcases c17' with hh | hh | hh <;> simp_all [sameF]; done) | (rcases c17' with hh | hh | hh | hh <;> simp_all [sameF]; done) | (simp_all [sameF]; done) | rfl
    exact (by first | with_reducible rfl | rw [x32] | rfl)
  have c17' := c17
  (try simp only [hβ1, hβ2] at c17')
  (try simp only [icmp, Bool.and_eq_true, Bool.or_eq_true, Bool.and_eq_false_iff, Bool.or_eq_false_iff, Bool.not_eq_true', Bool.not_eq_false', decide_eq_true_eq, decide_eq_false_iff_not, beq_iff_eq, bne_iff_ne, beq_eq_false_iff_ne, bne_eq_false_iff_eq] at c17')
  refine wp_skip (hK2 _ _ ?_)
  refine wp_seq_k fun K33 hK33 => ?_
  refine wp_seq_k fun K34 hK34 => ?_
  obtain ⟨β5, hβ5⟩ : ∃ b : Bool, b = (fcmp .eql (ford .f64 (cf .f64 x) (cf .f64 0))) := ⟨_, rfl⟩
  obtain ⟨β6, hβ6⟩ : ∃ b : Bool, b = (fcmp .eql (ford .f64 (cf .f64 y) (cf .f64 0))) := ⟨_, rfl⟩
  refine region_text (
    [Fact.pure [] (fun v => v = (Fd x)),
    Fact.pure [21] (fun v => v = (Bo β5)),
    Fact.pure [22] (fun v => v = (Bo β5)),
    Fact.pure [23] (fun v => β5 = true → v = (Fd y)),
    Fact.pure [24, 23] (fun v => β5 = true → v = (Bo β6)),
    Fact.pure [23, 25] (fun v => v = (Bo (β5 && β6)))]) (by simp [Fact.pure, Fact.mem]) ?_
  refine RW_d _ rfl (fun v => by dsimp only [List.set]; try rfl) (fun u hu hF => ?_) (fun v35 => ?_)
  · clear hF
    refine doesG_un rfl ?_
    refine (does_move (u := (Fd x)) (ev rfl)).mono ?_; rintro _ _ ⟨rfl, rfl⟩
    exact ⟨rfl, Ext.refl _⟩
  refine RW_d _ rfl (fun v => by dsimp only [List.set]; try rfl) (fun u hu hF => ?_) (fun v36 => ?_)
  · have h21_ : v35 = (Fd x) := hF.1
    clear hF
    refine doesG_un rfl ?_
    obtain rfl := h21_
    refine (does_fcmp (.inl rfl) (ev rfl) (ev rfl)).mono ?_; rintro _ _ ⟨rfl, rfl⟩
    exact ⟨(by first | rfl | (show _ = _; simp only [hβ5]; done) | (show _ = _; simp only [hβ5]; rfl)), Ext.refl _⟩
  refine RW_d _ rfl (fun v => by dsimp only [List.set]; try rfl) (fun u hu hF => ?_) (fun v37 => ?_)
  · have h22_ : v36 = (Bo β5) := hF.1
    clear hF
    refine doesG_un rfl ?_
    obtain rfl := h22_
    refine (does_move (u := (Bo β5)) (ev rfl)).mono ?_; rintro _ _ ⟨rfl, rfl⟩
    exact ⟨rfl, Ext.refl _⟩
  refine RW_d _ rfl (fun v => by dsimp only [List.set]; try rfl) (fun u hu hF => ?_) (fun v38 => ?_)
  · have h23_ : v37 = (Bo β5) := hF.1
    clear hF
    obtain rfl := h23_
    refine doesG_g (b := β5) rfl (yld rfl rfl) (fun hg1 => ?_) (fun hc => ⟨fun hg1 => absurd hg1 hc, Ext.refl _⟩)
    refine (does_move (u := (Fd y)) (ev rfl)).mono ?_; rintro _ _ ⟨rfl, rfl⟩
    exact ⟨fun _ => rfl, Ext.refl _⟩
  refine RW_d _ rfl (fun v => by dsimp only [List.set]; try rfl) (fun u hu hF => ?_) (fun v39 => ?_)
  · have h24_ : β5 = true → v38 = (Fd y) := hF.1
    have h23_ : v37 = (Bo β5) := hF.2.1
    clear hF
    obtain rfl := h23_
    refine doesG_g (b := β5) rfl (yld rfl rfl) (fun hg1 => ?_) (fun hc => ⟨fun hg1 => absurd hg1 hc, Ext.refl _⟩)
    obtain rfl := h24_ hg1
    refine (does_fcmp (.inl rfl) (ev rfl) (ev rfl)).mono ?_; rintro _ _ ⟨rfl, rfl⟩
    exact ⟨fun _ => (by first | rfl | (show _ = _; simp only [hβ6]; done) | (show _ = _; simp only [hβ6]; rfl)), Ext.refl _⟩
  refine RW_d _ rfl (fun v => by dsimp only [List.set]; try rfl) (fun u hu hF => ?_) (fun v40 => ?_)
  · have h23_ : v37 = (Bo β5) := hF.1
    have h25_ : β5 = true → v39 = (Bo β6) := hF.2.1
    clear hF
    refine doesG_un rfl ?_
    skip
    obtain rfl := h23_
    refine (does_pick (b := β5) (u := v39) (v := (Bo false)) (ev rfl) (ev rfl) (ev rfl)).mono ?_; rintro _ _ ⟨rfl, rfl⟩; refine ⟨?_, Ext.refl _⟩; skip
    cases hbb : β5
    all_goals first | (show _ = _; simp only [↓reduceIte, Bool.true_and, Bool.false_and, Bool.true_or, Bool.false_or, Bool.false_eq_true]; done) | (have e_ := h25_ hbb; subst e_; show _ = _; simp only [↓reduceIte, Bool.true_and, Bool.false_and, Bool.true_or, Bool.false_or, Bool.false_eq_true]; done) | rfl | (have e_ := h25_ hbb; subst e_; rfl) | (simp [hbb] at h25_ ⊢; first | done | rfl | (subst h25_; rfl) | simp_all) | (simp [hbb] at h25_ ⊢; done)
  refine RW_fin ?_; intro w41 E42 hP43
  obtain ⟨⟨⟨⟨⟨⟨-, -⟩, -⟩, -⟩, -⟩, -⟩, q44⟩ := hP43
  have X45 := Ext.gr X16 E42
  have q44 : v40 = (Bo (β5 && β6)) := q44
  obtain rfl := q44
  show wpList _ _ _ _ (fr [_, _, _, _, _, _, _, _, _, _, _, _, _, _, _, _, _, _, _, _, _, _, _, _, _, _, _, _, _, _, _, _, _, _, _, _, _]) _
  refine wpList_nil (hK34 _ _ ?_)
  refine wp_cond_split (t := β5 && β6) (ev rfl) (fun c46 => ?_) (fun c46 => ?_)
  · have c46' := c46
    (try simp only [hβ1, hβ2, hβ5, hβ6] at c46')
    (try simp only [icmp, Bool.and_eq_true, Bool.or_eq_true, Bool.and_eq_false_iff, Bool.or_eq_false_iff, Bool.not_eq_true', Bool.not_eq_false', decide_eq_true_eq, decide_eq_false_iff_not, beq_iff_eq, bne_iff_ne, beq_eq_false_iff_ne, bne_eq_false_iff_eq] at c46')
    refine wp_seq_k fun K47 hK47 => ?_
    refine wp_region_lit ?_
    refine q_is rfl rfl (does_move (u := (Fd x)) (ev rfl)) (by dsimp only [List.set]; try rfl) ?_
    refine seqd rfl rfl (does_float (.inr (.inr (.inr rfl))) (ev rfl) (ev rfl)) ?_; rintro _ w51 ⟨r48, rfl, h49, E50⟩
    have X52 := Ext.gr X45 E50
    show wpList _ _ _ _ (fr [_, _, _, _, _, _, _, _, _, _, _, _, _, _, _, _, _, _, _, _, _, _, _, _, _, _, _, _, _, _, _, _, _, _, _, _, _]) _
    refine q_is rfl rfl (does_fcmp (.inr (.inr (.inr (.inr (.inl rfl))))) (ev rfl) (ev rfl)) (by dsimp only [List.set]; try rfl) ?_
    refine q_is rfl rfl (does_move (u := (Fd y)) (ev rfl)) (by dsimp only [List.set]; try rfl) ?_
    refine seqd rfl rfl (does_float (.inr (.inr (.inr rfl))) (ev rfl) (ev rfl)) ?_; rintro _ w56 ⟨r53, rfl, h54, E55⟩
    have X57 := Ext.gr X52 E55
    show wpList _ _ _ _ (fr [_, _, _, _, _, _, _, _, _, _, _, _, _, _, _, _, _, _, _, _, _, _, _, _, _, _, _, _, _, _, _, _, _, _, _, _, _]) _
    refine q_is rfl rfl (does_fcmp (.inr (.inr (.inr (.inr (.inl rfl))))) (ev rfl) (ev rfl)) (by dsimp only [List.set]; try rfl) ?_
    refine q_is rfl rfl (does_beq (p := (fcmp .gtr (ford .f64 (cf .f64 r48) (cf .f64 0)))) (q := (fcmp .gtr (ford .f64 (cf .f64 r53) (cf .f64 0)))) Try.underlying4 (ev rfl) (ev rfl)) (by dsimp only [List.set]; try rfl) ?_
    refine q_is rfl rfl (does_assign (u := (Bo ((fcmp .gtr (ford .f64 (cf .f64 r48) (cf .f64 0))) == (fcmp .gtr (ford .f64 (cf .f64 r53) (cf .f64 0)))))) (ev rfl)) (by dsimp only [List.set]; try rfl) ?_
    refine wpList_nil (hK47 _ _ ?_)
    refine wp_ret ?_
    dsimp only [Exit.then, Exit.inBlock]
    refine ret_val (v := (Bo ((fcmp .gtr (ford .f64 (cf .f64 r48) (cf .f64 0))) == (fcmp .gtr (ford .f64 (cf .f64 r53) (cf .f64 0)))))) (res_T rfl (slot rfl)) X57 ?_
    try simp only [hβ1, hβ2, hβ5, hβ6, h49, h54] at c17 c46
    have x58 : (sameF (cf .f64 x) (cf .f64 y)) = ((fcmp .gtr (ford .f64 (cf .f64 r48) (cf .f64 0))) == (fcmp .gtr (ford .f64 (cf .f64 r53) (cf .f64 0)))) := by first | with_reducible rfl | (simp only [sameF, hβ1, hβ2, hβ5, hβ6, h49, h54, c17, c46]; done) | (simp [sameF, hβ1, hβ2, hβ5, hβ6, h49, h54, c17, c46]; done) | (revert c17 c46; simp +contextual [sameF, hβ1, hβ2, hβ5, hβ6, h49, h54]; done) | (rcases c17' with hh | hh <;> simp only [hh, sameF, hβ1, hβ2, hβ5, hβ6, h49, h54, c17, c46]; done) | (rcases c46' with hh | hh <;> simp only [hh, sameF, hβ1, hβ2, hβ5, hβ6, h49, h54, c17, c46]; done) | (rcases c46' with hh | hh <;> simp_all [sameF]; done) | (rcases c46' with hh | hh | hh <;> simp_all [sameF]; done) | (rcases c46' with hh | hh | hh | hh <;> simp_all [sameF]; done) | (simp_all [sameF]; done) | rfl
    exact (by first | with_reducible rfl | rw [x58] | rfl)
  have c46' := c46
  (try simp only [hβ1, hβ2, hβ5, hβ6] at c46')
  (try simp only [icmp, Bool.and_eq_true, Bool.or_eq_true, Bool.and_eq_false_iff, Bool.or_eq_false_iff, Bool.not_eq_true', Bool.not_eq_false', decide_eq_true_eq, decide_eq_false_iff_not, beq_iff_eq, bne_iff_ne, beq_eq_false_iff_ne, bne_eq_false_iff_eq] at c46')
  refine wp_skip (hK33 _ _ ?_)
  refine wp_seq_k fun K59 hK59 => ?_
  refine wp_region_lit ?_
  refine q_is rfl rfl (does_move (u := (Fd x)) (ev rfl)) (by dsimp only [List.set]; try rfl) ?_
  refine q_is rfl rfl (does_move (u := (Fd y)) (ev rfl)) (by dsimp only [List.set]; try rfl) ?_
  refine q_is rfl rfl (does_fcmp (.inl rfl) (ev rfl) (ev rfl)) (by dsimp only [List.set]; try rfl) ?_
  refine q_is rfl rfl (does_assign (u := (Bo (fcmp .eql (ford .f64 (cf .f64 x) (cf .f64 y))))) (ev rfl)) (by dsimp only [List.set]; try rfl) ?_
  refine wpList_nil (hK59 _ _ ?_)
  refine wp_ret ?_
  refine ret_val (v := (Bo (fcmp .eql (ford .f64 (cf .f64 x) (cf .f64 y))))) (res_T rfl (slot rfl)) X45 ?_
  try simp only [hβ1, hβ2, hβ5, hβ6] at c17 c46
  have x60 : (sameF (cf .f64 x) (cf .f64 y)) = (fcmp .eql (ford .f64 (cf .f64 x) (cf .f64 y))) := by first | with_reducible rfl | (simp only [sameF, hβ1, hβ2, hβ5, hβ6, c17, c46]; done) | (simp [sameF, hβ1, hβ2, hβ5, hβ6, c17, c46]; done) | (revert c17 c46; simp +contextual [sameF, hβ1, hβ2, hβ5, hβ6]; done) | (rcases c17' with hh | hh <;> simp only [hh, sameF, hβ1, hβ2, hβ5, hβ6, c17, c46]; done) | (rcases c46' with hh | hh <;> simp only [hh, sameF, hβ1, hβ2, hβ5, hβ6, c17, c46]; done) | (rcases c46' with hh | hh <;> simp_all [sameF]; done) | (rcases c46' with hh | hh | hh <;> simp_all [sameF]; done) | (rcases c46' with hh | hh | hh | hh <;> simp_all [sameF]; done) | (simp_all [sameF]; done) | rfl
  exact (by first | with_reducible rfl | rw [x60] | rfl)

/- laws.eqVector -/
theorem c_laws_eqVector (a : List Value) (A_a : V3) (b : List Value) (A_b : V3) (w : World) (hv_a : RV3 w A_a a) (hv_b : RV3 w A_b b) : Gives Try.prog 14 #[(.agg a.toArray), (.agg b.toArray)] w (fun v w' => v = (Bo (sameV A_a A_b))) := by
  obtain ⟨r1, r3, r5, rfl, h2, h4, h6⟩ := hv_a
  obtain ⟨r7, r9, r11, rfl, h8, h10, h12⟩ := hv_b
  refine enter [(.agg #[(Fl r1), (Fl r3), (Fl r5)]), (.agg #[(Fl r7), (Fl r9), (Fl r11)]), Ud, Ud, Ud, Ud, Ud, Ud, Ud, Ud, Ud, Ud, Ud, Ud, Ud, Ud, Ud, Ud, Ud, Ud, Ud, Ud, Ud, Ud, Ud, Ud, Ud, Ud, Ud] Try.func14 rfl Try.ntmps14 rfl ?_
  refine wp_seq_k fun K13 hK13 => ?_
  refine wp_region_lit ?_
  refine seqd rfl rfl (does_box (u := (.agg #[(Fl r1), (Fl r3), (Fl r5)])) (ev rfl)) ?_; rintro _ w18 ⟨b14, rfl, hb15, hB16, E17⟩
  have g19 : w.heap.size ≤ b14 := Nat.le_trans (Below.size (Ext.refl w)) hb15
  change Blk _ _ [(Fl r1), (Fl r3), (Fl r5)] at hB16
  have X20 := Ext.gr (Ext.refl w) E17
  show wpList _ _ _ _ (fr [_, _, _, _, _, _, _, _, _, _, _, _, _, _, _, _, _, _, _, _, _, _, _, _, _, _, _, _, _]) _
  refine seqd rfl rfl (does_box (u := (.agg #[(Fl r7), (Fl r9), (Fl r11)])) (ev rfl)) ?_; rintro _ w25 ⟨b21, rfl, hb22, hB23, E24⟩
  have n26 : b14 < b21 := Nat.lt_of_lt_of_le (Blk.lt hB16) hb22
  have g27 : w.heap.size ≤ b21 := Nat.le_trans (Below.size X20) hb22
  change Blk _ _ [(Fl r7), (Fl r9), (Fl r11)] at hB23
  have X28 := Ext.gr X20 E24
  show wpList _ _ _ _ (fr [_, _, _, _, _, _, _, _, _, _, _, _, _, _, _, _, _, _, _, _, _, _, _, _, _, _, _, _, _]) _
  refine q_is rfl rfl (does_assign (u := (Bo false)) (ev rfl)) (by dsimp only [List.set]; try rfl) ?_
  refine wpList_nil (hK13 _ _ ?_)
  refine wp_seq_k fun K29 hK29 => ?_
  refine wp_seq_k fun K30 hK30 => ?_
  refine wp_region_lit ?_
  refine q_is rfl rfl (does_fieldAddr (ev rfl) fa27_0) (by dsimp only [List.set]; try rfl) ?_
  refine q_is rfl rfl (does_load (u := (Fl r1)) (ev rfl) Try.isAgg22 (Cells.at (Blk.cells (hB16.ext E24)) 0 rfl)) (by dsimp only [List.set]; try rfl) ?_
  refine seqd rfl rfl (does_widen Try.underlying22 Try.underlying49 (ev rfl)) ?_; rintro _ w34 ⟨r31, rfl, h32, E33⟩
  have X35 := Ext.gr X28 E33
  show wpList _ _ _ _ (fr [_, _, _, _, _, _, _, _, _, _, _, _, _, _, _, _, _, _, _, _, _, _, _, _, _, _, _, _, _]) _
  refine q_is rfl rfl (does_fieldAddr (ev rfl) fa27_0) (by dsimp only [List.set]; try rfl) ?_
  refine q_is rfl rfl (does_load (u := (Fl r7)) (ev rfl) Try.isAgg22 (Cells.at (Blk.cells (hB23.ext E33)) 0 rfl)) (by dsimp only [List.set]; try rfl) ?_
  refine seqd rfl rfl (does_widen Try.underlying22 Try.underlying49 (ev rfl)) ?_; rintro _ w39 ⟨r36, rfl, h37, E38⟩
  have X40 := Ext.gr X35 E38
  show wpList _ _ _ _ (fr [_, _, _, _, _, _, _, _, _, _, _, _, _, _, _, _, _, _, _, _, _, _, _, _, _, _, _, _, _]) _
  refine seqd rfl rfl (does_call (args := #[(Fd r31), (Fd r36)]) cal19 (evs rfl) (c_laws_sameFloat r31 r36 _)) ?_; rintro _ w42 ⟨E41, rfl⟩
  have X43 := Ext.gr X40 E41
  show wpList _ _ _ _ (fr [_, _, _, _, _, _, _, _, _, _, _, _, _, _, _, _, _, _, _, _, _, _, _, _, _, _, _, _, _]) _
  refine q_is rfl rfl (does_not (ev rfl)) (by dsimp only [List.set]; try rfl) ?_
  refine wpList_nil (hK30 _ _ ?_)
  refine wp_cond_split (t := !(sameF (cf .f64 r31) (cf .f64 r36))) (ev rfl) (fun c44 => ?_) (fun c44 => ?_)
  · rw [Bool.not_eq_true'] at c44
    have c44' := c44
    refine wp_seq_k fun K45 hK45 => ?_
    refine wp_region_lit ?_
    refine q_is rfl rfl (does_assign (u := (Bo false)) (ev rfl)) (by dsimp only [List.set]; try rfl) ?_
    refine wpList_nil (hK45 _ _ ?_)
    refine wp_ret ?_
    dsimp only [Exit.then, Exit.inBlock]
    refine ret_val (v := (Bo false)) (res_T rfl (slot rfl)) X43 ?_
    try simp only [h2, h4, h6, h8, h10, h12, h32, h37] at c44
    have x46 : (sameV A_a A_b) = false := by first | with_reducible rfl | (simp only [sameV, h2, h4, h6, h8, h10, h12, h32, h37, c44]; done) | (simp [sameV, h2, h4, h6, h8, h10, h12, h32, h37, c44]; done) | (revert c44; simp +contextual [sameV, h2, h4, h6, h8, h10, h12, h32, h37]; done) | (rcases c44' with hh | hh <;> simp only [hh, sameV, h2, h4, h6, h8, h10, h12, h32, h37, c44]; done) | (rcases c44' with hh | hh <;> simp_all [sameV]; done) | (rcases c44' with hh | hh | hh <;> simp_all [sameV]; done) | (rcases c44' with hh | hh | hh | hh <;> simp_all [sameV]; done) | (simp_all [sameV]; done) | rfl
    exact (by first | with_reducible rfl | rw [x46] | rfl)
  rw [Bool.not_eq_false'] at c44
  have c44' := c44
  refine wp_skip (hK29 _ _ ?_)
  refine wp_seq_k fun K47 hK47 => ?_
  refine wp_seq_k fun K48 hK48 => ?_
  refine wp_region_lit ?_
  refine q_is rfl rfl (does_fieldAddr (ev rfl) fa27_1) (by dsimp only [List.set]; try rfl) ?_
  refine q_is rfl rfl (does_load (u := (Fl r3)) (ev rfl) Try.isAgg22 (Cells.at (Blk.cells ((((hB16.ext E24).ext E33).ext E38).ext E41)) 1 rfl)) (by dsimp only [List.set]; try rfl) ?_
  refine seqd rfl rfl (does_widen Try.underlying22 Try.underlying49 (ev rfl)) ?_; rintro _ w52 ⟨r49, rfl, h50, E51⟩
  have X53 := Ext.gr X43 E51
  show wpList _ _ _ _ (fr [_, _, _, _, _, _, _, _, _, _, _, _, _, _, _, _, _, _, _, _, _, _, _, _, _, _, _, _, _]) _
  refine q_is rfl rfl (does_fieldAddr (ev rfl) fa27_1) (by dsimp only [List.set]; try rfl) ?_
  refine q_is rfl rfl (does_load (u := (Fl r9)) (ev rfl) Try.isAgg22 (Cells.at (Blk.cells ((((hB23.ext E33).ext E38).ext E41).ext E51)) 1 rfl)) (by dsimp only [List.set]; try rfl) ?_
  refine seqd rfl rfl (does_widen Try.underlying22 Try.underlying49 (ev rfl)) ?_; rintro _ w57 ⟨r54, rfl, h55, E56⟩
  have X58 := Ext.gr X53 E56
  show wpList _ _ _ _ (fr [_, _, _, _, _, _, _, _, _, _, _, _, _, _, _, _, _, _, _, _, _, _, _, _, _, _, _, _, _]) _
  refine seqd rfl rfl (does_call (args := #[(Fd r49), (Fd r54)]) cal19 (evs rfl) (c_laws_sameFloat r49 r54 _)) ?_; rintro _ w60 ⟨E59, rfl⟩
  have X61 := Ext.gr X58 E59
  show wpList _ _ _ _ (fr [_, _, _, _, _, _, _, _, _, _, _, _, _, _, _, _, _, _, _, _, _, _, _, _, _, _, _, _, _]) _
  refine q_is rfl rfl (does_not (ev rfl)) (by dsimp only [List.set]; try rfl) ?_
  refine wpList_nil (hK48 _ _ ?_)
  refine wp_cond_split (t := !(sameF (cf .f64 r49) (cf .f64 r54))) (ev rfl) (fun c62 => ?_) (fun c62 => ?_)
  · rw [Bool.not_eq_true'] at c62
    have c62' := c62
    refine wp_seq_k fun K63 hK63 => ?_
    refine wp_region_lit ?_
    refine q_is rfl rfl (does_assign (u := (Bo false)) (ev rfl)) (by dsimp only [List.set]; try rfl) ?_
    refine wpList_nil (hK63 _ _ ?_)
    refine wp_ret ?_
    dsimp only [Exit.then, Exit.inBlock]
    refine ret_val (v := (Bo false)) (res_T rfl (slot rfl)) X61 ?_
    try simp only [h2, h4, h6, h8, h10, h12, h32, h37, h50, h55] at c44 c62
    have x64 : (sameV A_a A_b) = false := by first | with_reducible rfl | (simp only [sameV, h2, h4, h6, h8, h10, h12, h32, h37, h50, h55, c44, c62]; done) | (simp [sameV, h2, h4, h6, h8, h10, h12, h32, h37, h50, h55, c44, c62]; done) | (revert c44 c62; simp +contextual [sameV, h2, h4, h6, h8, h10, h12, h32, h37, h50, h55]; done) | (rcases c44' with hh | hh <;> simp only [hh, sameV, h2, h4, h6, h8, h10, h12, h32, h37, h50, h55, c44, c62]; done) | (rcases c62' with hh | hh <;> simp only [hh, sameV, h2, h4, h6, h8, h10, h12, h32, h37, h50, h55, c44, c62]; done) | (rcases c62' with hh | hh <;> simp_all [sameV]; done) | (rcases c62' with hh | hh | hh <;> simp_all [sameV]; done) | (rcases c62' with hh | hh | hh | hh <;> simp_all [sameV]; done) | (simp_all [sameV]; done) | rfl
    exact (by first | with_reducible rfl | rw [x64] | rfl)
  rw [Bool.not_eq_false'] at c62
  have c62' := c62
  refine wp_skip (hK47 _ _ ?_)
  refine wp_seq_k fun K65 hK65 => ?_
  refine wp_seq_k fun K66 hK66 => ?_
  refine wp_region_lit ?_
  refine q_is rfl rfl (does_fieldAddr (ev rfl) fa27_2) (by dsimp only [List.set]; try rfl) ?_
  refine q_is rfl rfl (does_load (u := (Fl r5)) (ev rfl) Try.isAgg22 (Cells.at (Blk.cells (((((((hB16.ext E24).ext E33).ext E38).ext E41).ext E51).ext E56).ext E59)) 2 rfl)) (by dsimp only [List.set]; try rfl) ?_
  refine seqd rfl rfl (does_widen Try.underlying22 Try.underlying49 (ev rfl)) ?_; rintro _ w70 ⟨r67, rfl, h68, E69⟩
  have X71 := Ext.gr X61 E69
  show wpList _ _ _ _ (fr [_, _, _, _, _, _, _, _, _, _, _, _, _, _, _, _, _, _, _, _, _, _, _, _, _, _, _, _, _]) _
  refine q_is rfl rfl (does_fieldAddr (ev rfl) fa27_2) (by dsimp only [List.set]; try rfl) ?_
  refine q_is rfl rfl (does_load (u := (Fl r11)) (ev rfl) Try.isAgg22 (Cells.at (Blk.cells (((((((hB23.ext E33).ext E38).ext E41).ext E51).ext E56).ext E59).ext E69)) 2 rfl)) (by dsimp only [List.set]; try rfl) ?_
  refine seqd rfl rfl (does_widen Try.underlying22 Try.underlying49 (ev rfl)) ?_; rintro _ w75 ⟨r72, rfl, h73, E74⟩
  have X76 := Ext.gr X71 E74
  show wpList _ _ _ _ (fr [_, _, _, _, _, _, _, _, _, _, _, _, _, _, _, _, _, _, _, _, _, _, _, _, _, _, _, _, _]) _
  refine seqd rfl rfl (does_call (args := #[(Fd r67), (Fd r72)]) cal19 (evs rfl) (c_laws_sameFloat r67 r72 _)) ?_; rintro _ w78 ⟨E77, rfl⟩
  have X79 := Ext.gr X76 E77
  show wpList _ _ _ _ (fr [_, _, _, _, _, _, _, _, _, _, _, _, _, _, _, _, _, _, _, _, _, _, _, _, _, _, _, _, _]) _
  refine q_is rfl rfl (does_not (ev rfl)) (by dsimp only [List.set]; try rfl) ?_
  refine wpList_nil (hK66 _ _ ?_)
  refine wp_cond_split (t := !(sameF (cf .f64 r67) (cf .f64 r72))) (ev rfl) (fun c80 => ?_) (fun c80 => ?_)
  · rw [Bool.not_eq_true'] at c80
    have c80' := c80
    refine wp_seq_k fun K81 hK81 => ?_
    refine wp_region_lit ?_
    refine q_is rfl rfl (does_assign (u := (Bo false)) (ev rfl)) (by dsimp only [List.set]; try rfl) ?_
    refine wpList_nil (hK81 _ _ ?_)
    refine wp_ret ?_
    dsimp only [Exit.then, Exit.inBlock]
    refine ret_val (v := (Bo false)) (res_T rfl (slot rfl)) X79 ?_
    try simp only [h2, h4, h6, h8, h10, h12, h32, h37, h50, h55, h68, h73] at c44 c62 c80
    have x82 : (sameV A_a A_b) = false := by first | with_reducible rfl | (simp only [sameV, h2, h4, h6, h8, h10, h12, h32, h37, h50, h55, h68, h73, c44, c62, c80]; done) | (simp [sameV, h2, h4, h6, h8, h10, h12, h32, h37, h50, h55, h68, h73, c44, c62, c80]; done) | (revert c44 c62 c80; simp +contextual [sameV, h2, h4, h6, h8, h10, h12, h32, h37, h50, h55, h68, h73]; done) | (rcases c44' with hh | hh <;> simp only [hh, sameV, h2, h4, h6, h8, h10, h12, h32, h37, h50, h55, h68, h73, c44, c62, c80]; done) | (rcases c62' with hh | hh <;> simp only [hh, sameV, h2, h4, h6, h8, h10, h12, h32, h37, h50, h55, h68, h73, c44, c62, c80]; done) | (rcases c80' with hh | hh <;> simp only [hh, sameV, h2, h4, h6, h8, h10, h12, h32, h37, h50, h55, h68, h73, c44, c62, c80]; done) | (rcases c80' with hh | hh <;> simp_all [sameV]; done) | (rcases c80' with hh | hh | hh <;> simp_all [sameV]; done) | (rcases c80' with hh | hh | hh | hh <;> simp_all [sameV]; done) | (simp_all [sameV]; done) | rfl
    exact (by first | with_reducible rfl | rw [x82] | rfl)
  rw [Bool.not_eq_false'] at c80
  have c80' := c80
  refine wp_skip (hK65 _ _ ?_)
  refine wp_seq_k fun K83 hK83 => ?_
  refine wp_region_lit ?_
  refine q_is rfl rfl (does_assign (u := (Bo true)) (ev rfl)) (by dsimp only [List.set]; try rfl) ?_
  refine wpList_nil (hK83 _ _ ?_)
  refine wp_ret ?_
  refine ret_val (v := (Bo true)) (res_T rfl (slot rfl)) X79 ?_
  try simp only [h2, h4, h6, h8, h10, h12, h32, h37, h50, h55, h68, h73] at c44 c62 c80
  have x84 : (sameV A_a A_b) = true := by first | with_reducible rfl | (simp only [sameV, h2, h4, h6, h8, h10, h12, h32, h37, h50, h55, h68, h73, c44, c62, c80]; done) | (simp [sameV, h2, h4, h6, h8, h10, h12, h32, h37, h50, h55, h68, h73, c44, c62, c80]; done) | (revert c44 c62 c80; simp +contextual [sameV, h2, h4, h6, h8, h10, h12, h32, h37, h50, h55, h68, h73]; done) | (rcases c44' with hh | hh <;> simp only [hh, sameV, h2, h4, h6, h8, h10, h12, h32, h37, h50, h55, h68, h73, c44, c62, c80]; done) | (rcases c62' with hh | hh <;> simp only [hh, sameV, h2, h4, h6, h8, h10, h12, h32, h37, h50, h55, h68, h73, c44, c62, c80]; done) | (rcases c80' with hh | hh <;> simp only [hh, sameV, h2, h4, h6, h8, h10, h12, h32, h37, h50, h55, h68, h73, c44, c62, c80]; done) | (rcases c80' with hh | hh <;> simp_all [sameV]; done) | (rcases c80' with hh | hh | hh <;> simp_all [sameV]; done) | (rcases c80' with hh | hh | hh | hh <;> simp_all [sameV]; done) | (simp_all [sameV]; done) | rfl
  exact (by first | with_reducible rfl | rw [x84] | rfl)

/- laws.eqBox -/
theorem c_laws_eqBox (a : List Value) (A_a : Bx) (b : List Value) (A_b : Bx) (w : World) (hv_a : RBx w A_a a) (hv_b : RBx w A_b b) : Gives Try.prog 7 #[(.agg a.toArray), (.agg b.toArray)] w (fun v w' => v = (Bo (sameB A_a A_b))) := by
  obtain ⟨r1, r3, r5, r7, r9, r11, rfl, h2, h4, h6, h8, h10, h12⟩ := hv_a
  obtain ⟨r13, r15, r17, r19, r21, r23, rfl, h14, h16, h18, h20, h22, h24⟩ := hv_b
  refine enter [(.agg #[(Fl r1), (Fl r3), (Fl r5), (Fl r7), (Fl r9), (Fl r11)]), (.agg #[(Fl r13), (Fl r15), (Fl r17), (Fl r19), (Fl r21), (Fl r23)]), Ud, Ud, Ud, Ud, Ud, Ud, Ud, Ud, Ud, Ud, Ud, Ud, Ud, Ud, Ud] Try.func7 rfl Try.ntmps7 rfl ?_
  refine wp_seq_k fun K25 hK25 => ?_
  refine wp_region_lit ?_
  refine seqd rfl rfl (does_box (u := (.agg #[(Fl r1), (Fl r3), (Fl r5), (Fl r7), (Fl r9), (Fl r11)])) (ev rfl)) ?_; rintro _ w30 ⟨b26, rfl, hb27, hB28, E29⟩
  have g31 : w.heap.size ≤ b26 := Nat.le_trans (Below.size (Ext.refl w)) hb27
  change Blk _ _ [(Fl r1), (Fl r3), (Fl r5), (Fl r7), (Fl r9), (Fl r11)] at hB28
  have X32 := Ext.gr (Ext.refl w) E29
  show wpList _ _ _ _ (fr [(.agg #[(Fl r1), (Fl r3), (Fl r5), (Fl r7), (Fl r9), (Fl r11)]), (.agg #[(Fl r13), (Fl r15), (Fl r17), (Fl r19), (Fl r21), (Fl r23)]), (Pt b26 0), Ud, Ud, Ud, Ud, Ud, Ud, Ud, Ud, Ud, Ud, Ud, Ud, Ud, Ud]) _
  refine seqd rfl rfl (does_box (u := (.agg #[(Fl r13), (Fl r15), (Fl r17), (Fl r19), (Fl r21), (Fl r23)])) (ev rfl)) ?_; rintro _ w37 ⟨b33, rfl, hb34, hB35, E36⟩
  have n38 : b26 < b33 := Nat.lt_of_lt_of_le (Blk.lt hB28) hb34
  have g39 : w.heap.size ≤ b33 := Nat.le_trans (Below.size X32) hb34
  change Blk _ _ [(Fl r13), (Fl r15), (Fl r17), (Fl r19), (Fl r21), (Fl r23)] at hB35
  have X40 := Ext.gr X32 E36
  show wpList _ _ _ _ (fr [(.agg #[(Fl r1), (Fl r3), (Fl r5), (Fl r7), (Fl r9), (Fl r11)]), (.agg #[(Fl r13), (Fl r15), (Fl r17), (Fl r19), (Fl r21), (Fl r23)]), (Pt b26 0), (Pt b33 0), Ud, Ud, Ud, Ud, Ud, Ud, Ud, Ud, Ud, Ud, Ud, Ud, Ud]) _
  refine q_is (l' := [(.agg #[(Fl r1), (Fl r3), (Fl r5), (Fl r7), (Fl r9), (Fl r11)]), (.agg #[(Fl r13), (Fl r15), (Fl r17), (Fl r19), (Fl r21), (Fl r23)]), (Pt b26 0), (Pt b33 0), (Bo false), Ud, Ud, Ud, Ud, Ud, Ud, Ud, Ud, Ud, Ud, Ud, Ud]) rfl rfl (does_assign (u := (Bo false)) (ev rfl)) rfl ?_
  refine wpList_nil (hK25 _ _ ?_)
  refine wp_seq_k fun K41 hK41 => ?_
  refine wp_seq_k fun K42 hK42 => ?_
  refine wp_region_lit ?_
  refine q_is (l' := [(.agg #[(Fl r1), (Fl r3), (Fl r5), (Fl r7), (Fl r9), (Fl r11)]), (.agg #[(Fl r13), (Fl r15), (Fl r17), (Fl r19), (Fl r21), (Fl r23)]), (Pt b26 0), (Pt b33 0), (Bo false), (Pt b26 0), Ud, Ud, Ud, Ud, Ud, Ud, Ud, Ud, Ud, Ud, Ud]) rfl rfl (does_fieldAddr (ev rfl) fa29_0) rfl ?_
  refine q_is (l' := [(.agg #[(Fl r1), (Fl r3), (Fl r5), (Fl r7), (Fl r9), (Fl r11)]), (.agg #[(Fl r13), (Fl r15), (Fl r17), (Fl r19), (Fl r21), (Fl r23)]), (Pt b26 0), (Pt b33 0), (Bo false), (Pt b26 0), (.agg #[(Fl r1), (Fl r3), (Fl r5)]), Ud, Ud, Ud, Ud, Ud, Ud, Ud, Ud, Ud, Ud]) rfl rfl (does_loadAgg (cs := [(Fl r1), (Fl r3), (Fl r5)]) (ev rfl) Try.isAgg27 Try.sizeOf27 (Cells.sub (Blk.cells (hB28.ext E36)) 0 3) rfl) rfl ?_
  refine q_is (l' := [(.agg #[(Fl r1), (Fl r3), (Fl r5), (Fl r7), (Fl r9), (Fl r11)]), (.agg #[(Fl r13), (Fl r15), (Fl r17), (Fl r19), (Fl r21), (Fl r23)]), (Pt b26 0), (Pt b33 0), (Bo false), (Pt b26 0), (.agg #[(Fl r1), (Fl r3), (Fl r5)]), (Pt b33 0), Ud, Ud, Ud, Ud, Ud, Ud, Ud, Ud, Ud]) rfl rfl (does_fieldAddr (ev rfl) fa29_0) rfl ?_
  refine q_is (l' := [(.agg #[(Fl r1), (Fl r3), (Fl r5), (Fl r7), (Fl r9), (Fl r11)]), (.agg #[(Fl r13), (Fl r15), (Fl r17), (Fl r19), (Fl r21), (Fl r23)]), (Pt b26 0), (Pt b33 0), (Bo false), (Pt b26 0), (.agg #[(Fl r1), (Fl r3), (Fl r5)]), (Pt b33 0), (.agg #[(Fl r13), (Fl r15), (Fl r17)]), Ud, Ud, Ud, Ud, Ud, Ud, Ud, Ud]) rfl rfl (does_loadAgg (cs := [(Fl r13), (Fl r15), (Fl r17)]) (ev rfl) Try.isAgg27 Try.sizeOf27 (Cells.sub (Blk.cells hB35) 0 3) rfl) rfl ?_
  refine seqd rfl rfl (does_call (args := #[(.agg #[(Fl r1), (Fl r3), (Fl r5)]), (.agg #[(Fl r13), (Fl r15), (Fl r17)])]) cal14 (evs rfl) (c_laws_eqVector [(Fl r1), (Fl r3), (Fl r5)] A_a.lo [(Fl r13), (Fl r15), (Fl r17)] A_b.lo _ ⟨r1, r3, r5, rfl, h2, h4, h6⟩ ⟨r13, r15, r17, rfl, h14, h16, h18⟩)) ?_; rintro _ w44 ⟨E43, rfl⟩
  have X45 := Ext.gr X40 E43
  show wpList _ _ _ _ (fr [(.agg #[(Fl r1), (Fl r3), (Fl r5), (Fl r7), (Fl r9), (Fl r11)]), (.agg #[(Fl r13), (Fl r15), (Fl r17), (Fl r19), (Fl r21), (Fl r23)]), (Pt b26 0), (Pt b33 0), (Bo false), (Pt b26 0), (.agg #[(Fl r1), (Fl r3), (Fl r5)]), (Pt b33 0), (.agg #[(Fl r13), (Fl r15), (Fl r17)]), (Bo (sameV A_a.lo A_b.lo)), Ud, Ud, Ud, Ud, Ud, Ud, Ud]) _
  refine q_is (l' := [(.agg #[(Fl r1), (Fl r3), (Fl r5), (Fl r7), (Fl r9), (Fl r11)]), (.agg #[(Fl r13), (Fl r15), (Fl r17), (Fl r19), (Fl r21), (Fl r23)]), (Pt b26 0), (Pt b33 0), (Bo false), (Pt b26 0), (.agg #[(Fl r1), (Fl r3), (Fl r5)]), (Pt b33 0), (.agg #[(Fl r13), (Fl r15), (Fl r17)]), (Bo (sameV A_a.lo A_b.lo)), (Bo (!(sameV A_a.lo A_b.lo))), Ud, Ud, Ud, Ud, Ud, Ud]) rfl rfl (does_not (ev rfl)) rfl ?_
  refine wpList_nil (hK42 _ _ ?_)
  refine wp_cond_split (t := !(sameV A_a.lo A_b.lo)) (ev rfl) (fun c46 => ?_) (fun c46 => ?_)
  · rw [Bool.not_eq_true'] at c46
    have c46' := c46
    refine wp_seq_k fun K47 hK47 => ?_
    refine wp_region_lit ?_
    refine q_is (l' := [(.agg #[(Fl r1), (Fl r3), (Fl r5), (Fl r7), (Fl r9), (Fl r11)]), (.agg #[(Fl r13), (Fl r15), (Fl r17), (Fl r19), (Fl r21), (Fl r23)]), (Pt b26 0), (Pt b33 0), (Bo false), (Pt b26 0), (.agg #[(Fl r1), (Fl r3), (Fl r5)]), (Pt b33 0), (.agg #[(Fl r13), (Fl r15), (Fl r17)]), (Bo (sameV A_a.lo A_b.lo)), (Bo (!(sameV A_a.lo A_b.lo))), Ud, Ud, Ud, Ud, Ud, Ud]) rfl rfl (does_assign (u := (Bo false)) (ev rfl)) rfl ?_
    refine wpList_nil (hK47 _ _ ?_)
    refine wp_ret ?_
    dsimp only [Exit.then, Exit.inBlock]
    refine ret_val (v := (Bo false)) (res_T rfl (slot rfl)) X45 ?_
    try simp only [h2, h4, h6, h8, h10, h12, h14, h16, h18, h20, h22, h24] at c46
    have x48 : (sameB A_a A_b) = false := by first | with_reducible rfl | (simp only [sameB, h2, h4, h6, h8, h10, h12, h14, h16, h18, h20, h22, h24, c46]; done) | (simp [sameB, h2, h4, h6, h8, h10, h12, h14, h16, h18, h20, h22, h24, c46]; done) | (revert c46; simp +contextual [sameB, h2, h4, h6, h8, h10, h12, h14, h16, h18, h20, h22, h24]; done) | (rcases c46' with hh | hh <;> simp only [hh, sameB, h2, h4, h6, h8, h10, h12, h14, h16, h18, h20, h22, h24, c46]; done) | (rcases c46' with hh | hh <;> simp_all [sameB]; done) | (rcases c46' with hh | hh | hh <;> simp_all [sameB]; done) | (rcases c46' with hh | hh | hh | hh <;> simp_all [sameB]; done) | (simp_all [sameB]; done) | rfl
    exact (by first | with_reducible rfl | rw [x48] | rfl)
  rw [Bool.not_eq_false'] at c46
  have c46' := c46
  refine wp_skip (hK41 _ _ ?_)
  refine wp_seq_k fun K49 hK49 => ?_
  refine wp_seq_k fun K50 hK50 => ?_
  refine wp_region_lit ?_
  refine q_is (l' := [(.agg #[(Fl r1), (Fl r3), (Fl r5), (Fl r7), (Fl r9), (Fl r11)]), (.agg #[(Fl r13), (Fl r15), (Fl r17), (Fl r19), (Fl r21), (Fl r23)]), (Pt b26 0), (Pt b33 0), (Bo false), (Pt b26 0), (.agg #[(Fl r1), (Fl r3), (Fl r5)]), (Pt b33 0), (.agg #[(Fl r13), (Fl r15), (Fl r17)]), (Bo (sameV A_a.lo A_b.lo)), (Bo (!(sameV A_a.lo A_b.lo))), (Pt b26 3), Ud, Ud, Ud, Ud, Ud]) rfl rfl (does_fieldAddr (ev rfl) fa29_1) rfl ?_
  refine q_is (l' := [(.agg #[(Fl r1), (Fl r3), (Fl r5), (Fl r7), (Fl r9), (Fl r11)]), (.agg #[(Fl r13), (Fl r15), (Fl r17), (Fl r19), (Fl r21), (Fl r23)]), (Pt b26 0), (Pt b33 0), (Bo false), (Pt b26 0), (.agg #[(Fl r1), (Fl r3), (Fl r5)]), (Pt b33 0), (.agg #[(Fl r13), (Fl r15), (Fl r17)]), (Bo (sameV A_a.lo A_b.lo)), (Bo (!(sameV A_a.lo A_b.lo))), (Pt b26 3), (.agg #[(Fl r7), (Fl r9), (Fl r11)]), Ud, Ud, Ud, Ud]) rfl rfl (does_loadAgg (cs := [(Fl r7), (Fl r9), (Fl r11)]) (ev rfl) Try.isAgg27 Try.sizeOf27 (Cells.sub (Blk.cells ((hB28.ext E36).ext E43)) 3 3) rfl) rfl ?_
  refine q_is (l' := [(.agg #[(Fl r1), (Fl r3), (Fl r5), (Fl r7), (Fl r9), (Fl r11)]), (.agg #[(Fl r13), (Fl r15), (Fl r17), (Fl r19), (Fl r21), (Fl r23)]), (Pt b26 0), (Pt b33 0), (Bo false), (Pt b26 0), (.agg #[(Fl r1), (Fl r3), (Fl r5)]), (Pt b33 0), (.agg #[(Fl r13), (Fl r15), (Fl r17)]), (Bo (sameV A_a.lo A_b.lo)), (Bo (!(sameV A_a.lo A_b.lo))), (Pt b26 3), (.agg #[(Fl r7), (Fl r9), (Fl r11)]), (Pt b33 3), Ud, Ud, Ud]) rfl rfl (does_fieldAddr (ev rfl) fa29_1) rfl ?_
  refine q_is (l' := [(.agg #[(Fl r1), (Fl r3), (Fl r5), (Fl r7), (Fl r9), (Fl r11)]), (.agg #[(Fl r13), (Fl r15), (Fl r17), (Fl r19), (Fl r21), (Fl r23)]), (Pt b26 0), (Pt b33 0), (Bo false), (Pt b26 0), (.agg #[(Fl r1), (Fl r3), (Fl r5)]), (Pt b33 0), (.agg #[(Fl r13), (Fl r15), (Fl r17)]), (Bo (sameV A_a.lo A_b.lo)), (Bo (!(sameV A_a.lo A_b.lo))), (Pt b26 3), (.agg #[(Fl r7), (Fl r9), (Fl r11)]), (Pt b33 3), (.agg #[(Fl r19), (Fl r21), (Fl r23)]), Ud, Ud]) rfl rfl (does_loadAgg (cs := [(Fl r19), (Fl r21), (Fl r23)]) (ev rfl) Try.isAgg27 Try.sizeOf27 (Cells.sub (Blk.cells (hB35.ext E43)) 3 3) rfl) rfl ?_
  refine seqd rfl rfl (does_call (args := #[(.agg #[(Fl r7), (Fl r9), (Fl r11)]), (.agg #[(Fl r19), (Fl r21), (Fl r23)])]) cal14 (evs rfl) (c_laws_eqVector [(Fl r7), (Fl r9), (Fl r11)] A_a.hi [(Fl r19), (Fl r21), (Fl r23)] A_b.hi _ ⟨r7, r9, r11, rfl, h8, h10, h12⟩ ⟨r19, r21, r23, rfl, h20, h22, h24⟩)) ?_; rintro _ w52 ⟨E51, rfl⟩
  have X53 := Ext.gr X45 E51
  show wpList _ _ _ _ (fr [(.agg #[(Fl r1), (Fl r3), (Fl r5), (Fl r7), (Fl r9), (Fl r11)]), (.agg #[(Fl r13), (Fl r15), (Fl r17), (Fl r19), (Fl r21), (Fl r23)]), (Pt b26 0), (Pt b33 0), (Bo false), (Pt b26 0), (.agg #[(Fl r1), (Fl r3), (Fl r5)]), (Pt b33 0), (.agg #[(Fl r13), (Fl r15), (Fl r17)]), (Bo (sameV A_a.lo A_b.lo)), (Bo (!(sameV A_a.lo A_b.lo))), (Pt b26 3), (.agg #[(Fl r7), (Fl r9), (Fl r11)]), (Pt b33 3), (.agg #[(Fl r19), (Fl r21), (Fl r23)]), (Bo (sameV A_a.hi A_b.hi)), Ud]) _
  refine q_is (l' := [(.agg #[(Fl r1), (Fl r3), (Fl r5), (Fl r7), (Fl r9), (Fl r11)]), (.agg #[(Fl r13), (Fl r15), (Fl r17), (Fl r19), (Fl r21), (Fl r23)]), (Pt b26 0), (Pt b33 0), (Bo false), (Pt b26 0), (.agg #[(Fl r1), (Fl r3), (Fl r5)]), (Pt b33 0), (.agg #[(Fl r13), (Fl r15), (Fl r17)]), (Bo (sameV A_a.lo A_b.lo)), (Bo (!(sameV A_a.lo A_b.lo))), (Pt b26 3), (.agg #[(Fl r7), (Fl r9), (Fl r11)]), (Pt b33 3), (.agg #[(Fl r19), (Fl r21), (Fl r23)]), (Bo (sameV A_a.hi A_b.hi)), (Bo (!(sameV A_a.hi A_b.hi)))]) rfl rfl (does_not (ev rfl)) rfl ?_
  refine wpList_nil (hK50 _ _ ?_)
  refine wp_cond_split (t := !(sameV A_a.hi A_b.hi)) (ev rfl) (fun c54 => ?_) (fun c54 => ?_)
  · rw [Bool.not_eq_true'] at c54
    have c54' := c54
    refine wp_seq_k fun K55 hK55 => ?_
    refine wp_region_lit ?_
    refine q_is (l' := [(.agg #[(Fl r1), (Fl r3), (Fl r5), (Fl r7), (Fl r9), (Fl r11)]), (.agg #[(Fl r13), (Fl r15), (Fl r17), (Fl r19), (Fl r21), (Fl r23)]), (Pt b26 0), (Pt b33 0), (Bo false), (Pt b26 0), (.agg #[(Fl r1), (Fl r3), (Fl r5)]), (Pt b33 0), (.agg #[(Fl r13), (Fl r15), (Fl r17)]), (Bo (sameV A_a.lo A_b.lo)), (Bo (!(sameV A_a.lo A_b.lo))), (Pt b26 3), (.agg #[(Fl r7), (Fl r9), (Fl r11)]), (Pt b33 3), (.agg #[(Fl r19), (Fl r21), (Fl r23)]), (Bo (sameV A_a.hi A_b.hi)), (Bo (!(sameV A_a.hi A_b.hi)))]) rfl rfl (does_assign (u := (Bo false)) (ev rfl)) rfl ?_
    refine wpList_nil (hK55 _ _ ?_)
    refine wp_ret ?_
    dsimp only [Exit.then, Exit.inBlock]
    refine ret_val (v := (Bo false)) (res_T rfl (slot rfl)) X53 ?_
    try simp only [h2, h4, h6, h8, h10, h12, h14, h16, h18, h20, h22, h24] at c46 c54
    have x56 : (sameB A_a A_b) = false := by first | with_reducible rfl | (simp only [sameB, h2, h4, h6, h8, h10, h12, h14, h16, h18, h20, h22, h24, c46, c54]; done) | (simp [sameB, h2, h4, h6, h8, h10, h12, h14, h16, h18, h20, h22, h24, c46, c54]; done) | (revert c46 c54; simp +contextual [sameB, h2, h4, h6, h8, h10, h12, h14, h16, h18, h20, h22, h24]; done) | (rcases c46' with hh | hh <;> simp only [hh, sameB, h2, h4, h6, h8, h10, h12, h14, h16, h18, h20, h22, h24, c46, c54]; done) | (rcases c54' with hh | hh <;> simp only [hh, sameB, h2, h4, h6, h8, h10, h12, h14, h16, h18, h20, h22, h24, c46, c54]; done) | (rcases c54' with hh | hh <;> simp_all [sameB]; done) | (rcases c54' with hh | hh | hh <;> simp_all [sameB]; done) | (rcases c54' with hh | hh | hh | hh <;> simp_all [sameB]; done) | (simp_all [sameB]; done) | rfl
    exact (by first | with_reducible rfl | rw [x56] | rfl)
  rw [Bool.not_eq_false'] at c54
  have c54' := c54
  refine wp_skip (hK49 _ _ ?_)
  refine wp_seq_k fun K57 hK57 => ?_
  refine wp_region_lit ?_
  refine q_is (l' := [(.agg #[(Fl r1), (Fl r3), (Fl r5), (Fl r7), (Fl r9), (Fl r11)]), (.agg #[(Fl r13), (Fl r15), (Fl r17), (Fl r19), (Fl r21), (Fl r23)]), (Pt b26 0), (Pt b33 0), (Bo true), (Pt b26 0), (.agg #[(Fl r1), (Fl r3), (Fl r5)]), (Pt b33 0), (.agg #[(Fl r13), (Fl r15), (Fl r17)]), (Bo (sameV A_a.lo A_b.lo)), (Bo (!(sameV A_a.lo A_b.lo))), (Pt b26 3), (.agg #[(Fl r7), (Fl r9), (Fl r11)]), (Pt b33 3), (.agg #[(Fl r19), (Fl r21), (Fl r23)]), (Bo (sameV A_a.hi A_b.hi)), (Bo (!(sameV A_a.hi A_b.hi)))]) rfl rfl (does_assign (u := (Bo true)) (ev rfl)) rfl ?_
  refine wpList_nil (hK57 _ _ ?_)
  refine wp_ret ?_
  refine ret_val (v := (Bo true)) (res_T rfl (slot rfl)) X53 ?_
  try simp only [h2, h4, h6, h8, h10, h12, h14, h16, h18, h20, h22, h24] at c46 c54
  have x58 : (sameB A_a A_b) = true := by first | with_reducible rfl | (simp only [sameB, h2, h4, h6, h8, h10, h12, h14, h16, h18, h20, h22, h24, c46, c54]; done) | (simp [sameB, h2, h4, h6, h8, h10, h12, h14, h16, h18, h20, h22, h24, c46, c54]; done) | (revert c46 c54; simp +contextual [sameB, h2, h4, h6, h8, h10, h12, h14, h16, h18, h20, h22, h24]; done) | (rcases c46' with hh | hh <;> simp only [hh, sameB, h2, h4, h6, h8, h10, h12, h14, h16, h18, h20, h22, h24, c46, c54]; done) | (rcases c54' with hh | hh <;> simp only [hh, sameB, h2, h4, h6, h8, h10, h12, h14, h16, h18, h20, h22, h24, c46, c54]; done) | (rcases c54' with hh | hh <;> simp_all [sameB]; done) | (rcases c54' with hh | hh | hh <;> simp_all [sameB]; done) | (rcases c54' with hh | hh | hh | hh <;> simp_all [sameB]; done) | (simp_all [sameB]; done) | rfl
  exact (by first | with_reducible rfl | rw [x58] | rfl)

/- laws.FnExactSplitBox -/
theorem c_laws_FnExactSplitBox (b : List Value) (A_b : Bx) (w : World) (hv_b : RBx w A_b b) : Gives Try.prog 3 #[(.agg b.toArray)] w (fun v w' => v = (Bo true)) := by
  obtain ⟨r1, r3, r5, r7, r9, r11, rfl, h2, h4, h6, h8, h10, h12⟩ := hv_b
  refine enter [(.agg #[(Fl r1), (Fl r3), (Fl r5), (Fl r7), (Fl r9), (Fl r11)]), Ud, Ud, Ud, Ud, Ud, Ud, Ud, Ud, Ud, Ud, Ud, Ud, Ud, Ud, Ud, Ud, Ud, Ud, Ud, Ud, Ud, Ud, Ud, Ud, Ud, Ud, Ud, Ud, Ud, Ud, Ud, Ud, Ud, Ud, Ud, Ud, Ud] Try.func3 rfl Try.ntmps3 rfl ?_
  refine wp_seq_k fun K13 hK13 => ?_
  refine wp_region_lit ?_
  refine seqd rfl rfl (does_box (u := (.agg #[(Fl r1), (Fl r3), (Fl r5), (Fl r7), (Fl r9), (Fl r11)])) (ev rfl)) ?_; rintro _ w18 ⟨b14, rfl, hb15, hB16, E17⟩
  have g19 : w.heap.size ≤ b14 := Nat.le_trans (Below.size (Ext.refl w)) hb15
  change Blk _ _ [(Fl r1), (Fl r3), (Fl r5), (Fl r7), (Fl r9), (Fl r11)] at hB16
  have X20 := Ext.gr (Ext.refl w) E17
  show wpList _ _ _ _ (fr [_, _, _, _, _, _, _, _, _, _, _, _, _, _, _, _, _, _, _, _, _, _, _, _, _, _, _, _, _, _, _, _, _, _, _, _, _, _]) _
  refine q_is rfl rfl (does_assign (u := (Bo false)) (ev rfl)) (by dsimp only [List.set]; try rfl) ?_
  refine wpList_nil (hK13 _ _ ?_)
  refine wp_seq_k fun K21 hK21 => ?_
  refine wp_region_lit ?_
  refine q_is rfl rfl (does_loadAgg (cs := [(Fl r1), (Fl r3), (Fl r5), (Fl r7), (Fl r9), (Fl r11)]) (ev rfl) Try.isAgg26 Try.sizeOf26 (Blk.cells hB16) rfl) (by dsimp only [List.set]; try rfl) ?_
  refine seqd rfl rfl (does_call (args := #[(.agg #[(Fl r1), (Fl r3), (Fl r5), (Fl r7), (Fl r9), (Fl r11)])]) cal5 (evs rfl) (c_laws_toBox [(Fl r1), (Fl r3), (Fl r5), (Fl r7), (Fl r9), (Fl r11)] A_b _ ⟨r1, r3, r5, r7, r9, r11, rfl, h2, h4, h6, h8, h10, h12⟩)) ?_; rintro _ w23 ⟨E22, ⟨_, rfl, ⟨r24, r26, r28, r30, r32, r34, rfl, h25, h27, h29, h31, h33, h35⟩⟩⟩
  have X36 := Ext.gr X20 E22
  show wpList _ _ _ _ (fr [_, _, _, _, _, _, _, _, _, _, _, _, _, _, _, _, _, _, _, _, _, _, _, _, _, _, _, _, _, _, _, _, _, _, _, _, _, _]) _
  refine seqd rfl rfl (does_call (args := #[(.agg #[(Fl r24), (Fl r26), (Fl r28), (Fl r30), (Fl r32), (Fl r34)])]) cal4 (evs rfl) (c_spec_SplitBox [(Fl r24), (Fl r26), (Fl r28), (Fl r30), (Fl r32), (Fl r34)] A_b _ ⟨r24, r26, r28, r30, r32, r34, rfl, h25, h27, h29, h31, h33, h35⟩)) ?_; rintro _ w38 ⟨E37, ⟨_, _, rfl, ⟨r39, r41, r43, r45, r47, r49, rfl, h40, h42, h44, h46, h48, h50⟩, ⟨r51, r53, r55, r57, r59, r61, rfl, h52, h54, h56, h58, h60, h62⟩⟩⟩
  have X63 := Ext.gr X36 E37
  show wpList _ _ _ _ (fr [_, _, _, _, _, _, _, _, _, _, _, _, _, _, _, _, _, _, _, _, _, _, _, _, _, _, _, _, _, _, _, _, _, _, _, _, _, _]) _
  refine q_is rfl rfl (does_move (u := (.tuple #[(.agg #[(Fl r39), (Fl r41), (Fl r43), (Fl r45), (Fl r47), (Fl r49)]), (.agg #[(Fl r51), (Fl r53), (Fl r55), (Fl r57), (Fl r59), (Fl r61)]), (Bo (splitOk A_b))])) (ev rfl)) (by dsimp only [List.set]; try rfl) ?_
  refine q_is rfl rfl (does_extract (vs := #[(.agg #[(Fl r39), (Fl r41), (Fl r43), (Fl r45), (Fl r47), (Fl r49)]), (.agg #[(Fl r51), (Fl r53), (Fl r55), (Fl r57), (Fl r59), (Fl r61)]), (Bo (splitOk A_b))]) (u := (.agg #[(Fl r39), (Fl r41), (Fl r43), (Fl r45), (Fl r47), (Fl r49)])) (ev rfl) rfl) (by dsimp only [List.set]; try rfl) ?_
  refine q_is rfl rfl (does_extract (vs := #[(.agg #[(Fl r39), (Fl r41), (Fl r43), (Fl r45), (Fl r47), (Fl r49)]), (.agg #[(Fl r51), (Fl r53), (Fl r55), (Fl r57), (Fl r59), (Fl r61)]), (Bo (splitOk A_b))]) (u := (.agg #[(Fl r51), (Fl r53), (Fl r55), (Fl r57), (Fl r59), (Fl r61)])) (ev rfl) rfl) (by dsimp only [List.set]; try rfl) ?_
  refine q_is rfl rfl (does_extract (vs := #[(.agg #[(Fl r39), (Fl r41), (Fl r43), (Fl r45), (Fl r47), (Fl r49)]), (.agg #[(Fl r51), (Fl r53), (Fl r55), (Fl r57), (Fl r59), (Fl r61)]), (Bo (splitOk A_b))]) (u := (Bo (splitOk A_b))) (ev rfl) rfl) (by dsimp only [List.set]; try rfl) ?_
  refine seqd rfl rfl (does_alloc z29) ?_; rintro _ w68 ⟨b64, rfl, hb65, hB66, E67⟩
  have n69 : b14 < b64 := Nat.lt_of_lt_of_le (Blk.lt ((hB16.ext E22).ext E37)) hb65
  have g70 : w.heap.size ≤ b64 := Nat.le_trans (Below.size X63) hb65
  change Blk _ _ [(Fl 0), (Fl 0), (Fl 0), (Fl 0), (Fl 0), (Fl 0)] at hB66
  have X71 := Ext.gr X63 E67
  show wpList _ _ _ _ (fr [_, _, _, _, _, _, _, _, _, _, _, _, _, _, _, _, _, _, _, _, _, _, _, _, _, _, _, _, _, _, _, _, _, _, _, _, _, _]) _
  refine seqd rfl rfl (does_alloc z29) ?_; rintro _ w76 ⟨b72, rfl, hb73, hB74, E75⟩
  have n77 : b14 < b72 := Nat.lt_of_lt_of_le (Blk.lt (((hB16.ext E22).ext E37).ext E67)) hb73
  have n78 : b64 < b72 := Nat.lt_of_lt_of_le (Blk.lt hB66) hb73
  have g79 : w.heap.size ≤ b72 := Nat.le_trans (Below.size X71) hb73
  change Blk _ _ [(Fl 0), (Fl 0), (Fl 0), (Fl 0), (Fl 0), (Fl 0)] at hB74
  have X80 := Ext.gr X71 E75
  show wpList _ _ _ _ (fr [_, _, _, _, _, _, _, _, _, _, _, _, _, _, _, _, _, _, _, _, _, _, _, _, _, _, _, _, _, _, _, _, _, _, _, _, _, _]) _
  refine seqn rfl rfl (does_store (n := 6) (cs := [(Fl 0), (Fl 0), (Fl 0), (Fl 0), (Fl 0), (Fl 0)]) (u := (.agg #[(Fl r39), (Fl r41), (Fl r43), (Fl r45), (Fl r47), (Fl r49)])) (ev rfl) (ev rfl) Try.sizeOf29 rfl (hB66.ext E75) (Nat.le_of_ble_eq_true rfl) rfl) ?_; rintro _ w83 ⟨rfl, W81, hB82⟩
  change Blk _ _ [(Fl r39), (Fl r41), (Fl r43), (Fl r45), (Fl r47), (Fl r49)] at hB82
  have X84 := Below.wr X80 W81 g70
  refine seqn rfl rfl (does_store (n := 6) (cs := [(Fl 0), (Fl 0), (Fl 0), (Fl 0), (Fl 0), (Fl 0)]) (u := (.agg #[(Fl r51), (Fl r53), (Fl r55), (Fl r57), (Fl r59), (Fl r61)])) (ev rfl) (ev rfl) Try.sizeOf29 rfl (hB74.wr W81 (Nat.ne_of_gt n78)) (Nat.le_of_ble_eq_true rfl) rfl) ?_; rintro _ w87 ⟨rfl, W85, hB86⟩
  change Blk _ _ [(Fl r51), (Fl r53), (Fl r55), (Fl r57), (Fl r59), (Fl r61)] at hB86
  have X88 := Below.wr X84 W85 g79
  refine q_is rfl rfl (does_assign (u := (Bo (splitOk A_b))) (ev rfl)) (by dsimp only [List.set]; try rfl) ?_
  refine wpList_nil (hK21 _ _ ?_)
  refine wp_seq_k fun K89 hK89 => ?_
  refine wp_region_lit ?_
  refine q_is rfl rfl (does_loadAgg (cs := [(Fl r1), (Fl r3), (Fl r5), (Fl r7), (Fl r9), (Fl r11)]) (ev rfl) Try.isAgg26 Try.sizeOf26 (Blk.cells ((((((hB16.ext E22).ext E37).ext E67).ext E75).wr W81 (Nat.ne_of_lt n69)).wr W85 (Nat.ne_of_lt n77))) rfl) (by dsimp only [List.set]; try rfl) ?_
  refine seqd rfl rfl (does_call (args := #[(.agg #[(Fl r1), (Fl r3), (Fl r5), (Fl r7), (Fl r9), (Fl r11)])]) cal5 (evs rfl) (c_laws_toBox [(Fl r1), (Fl r3), (Fl r5), (Fl r7), (Fl r9), (Fl r11)] A_b _ ⟨r1, r3, r5, r7, r9, r11, rfl, h2, h4, h6, h8, h10, h12⟩)) ?_; rintro _ w91 ⟨E90, ⟨_, rfl, ⟨r92, r94, r96, r98, r100, r102, rfl, h93, h95, h97, h99, h101, h103⟩⟩⟩
  have X104 := Ext.gr X88 E90
  show wpList _ _ _ _ (fr [_, _, _, _, _, _, _, _, _, _, _, _, _, _, _, _, _, _, _, _, _, _, _, _, _, _, _, _, _, _, _, _, _, _, _, _, _, _]) _
  refine seqd rfl rfl (does_call (args := #[(.agg #[(Fl r92), (Fl r94), (Fl r96), (Fl r98), (Fl r100), (Fl r102)])]) cal6 (evs rfl) (c_impl_SplitBox [(Fl r92), (Fl r94), (Fl r96), (Fl r98), (Fl r100), (Fl r102)] A_b _ ⟨r92, r94, r96, r98, r100, r102, rfl, h93, h95, h97, h99, h101, h103⟩)) ?_; rintro _ w106 ⟨E105, ⟨_, _, rfl, ⟨r107, r109, r111, r113, r115, r117, rfl, h108, h110, h112, h114, h116, h118⟩, ⟨r119, r121, r123, r125, r127, r129, rfl, h120, h122, h124, h126, h128, h130⟩⟩⟩
  have X131 := Ext.gr X104 E105
  show wpList _ _ _ _ (fr [_, _, _, _, _, _, _, _, _, _, _, _, _, _, _, _, _, _, _, _, _, _, _, _, _, _, _, _, _, _, _, _, _, _, _, _, _, _]) _
  refine q_is rfl rfl (does_move (u := (.tuple #[(.agg #[(Fl r107), (Fl r109), (Fl r111), (Fl r113), (Fl r115), (Fl r117)]), (.agg #[(Fl r119), (Fl r121), (Fl r123), (Fl r125), (Fl r127), (Fl r129)]), (Bo (splitOk A_b))])) (ev rfl)) (by dsimp only [List.set]; try rfl) ?_
  refine q_is rfl rfl (does_extract (vs := #[(.agg #[(Fl r107), (Fl r109), (Fl r111), (Fl r113), (Fl r115), (Fl r117)]), (.agg #[(Fl r119), (Fl r121), (Fl r123), (Fl r125), (Fl r127), (Fl r129)]), (Bo (splitOk A_b))]) (u := (.agg #[(Fl r107), (Fl r109), (Fl r111), (Fl r113), (Fl r115), (Fl r117)])) (ev rfl) rfl) (by dsimp only [List.set]; try rfl) ?_
  refine q_is rfl rfl (does_extract (vs := #[(.agg #[(Fl r107), (Fl r109), (Fl r111), (Fl r113), (Fl r115), (Fl r117)]), (.agg #[(Fl r119), (Fl r121), (Fl r123), (Fl r125), (Fl r127), (Fl r129)]), (Bo (splitOk A_b))]) (u := (.agg #[(Fl r119), (Fl r121), (Fl r123), (Fl r125), (Fl r127), (Fl r129)])) (ev rfl) rfl) (by dsimp only [List.set]; try rfl) ?_
  refine q_is rfl rfl (does_extract (vs := #[(.agg #[(Fl r107), (Fl r109), (Fl r111), (Fl r113), (Fl r115), (Fl r117)]), (.agg #[(Fl r119), (Fl r121), (Fl r123), (Fl r125), (Fl r127), (Fl r129)]), (Bo (splitOk A_b))]) (u := (Bo (splitOk A_b))) (ev rfl) rfl) (by dsimp only [List.set]; try rfl) ?_
  refine seqd rfl rfl (does_alloc z29) ?_; rintro _ w136 ⟨b132, rfl, hb133, hB134, E135⟩
  have n137 : b14 < b132 := Nat.lt_of_lt_of_le (Blk.lt ((((((((hB16.ext E22).ext E37).ext E67).ext E75).wr W81 (Nat.ne_of_lt n69)).wr W85 (Nat.ne_of_lt n77)).ext E90).ext E105)) hb133
  have n138 : b64 < b132 := Nat.lt_of_lt_of_le (Blk.lt (((hB82.wr W85 (Nat.ne_of_lt n78)).ext E90).ext E105)) hb133
  have n139 : b72 < b132 := Nat.lt_of_lt_of_le (Blk.lt ((hB86.ext E90).ext E105)) hb133
  have g140 : w.heap.size ≤ b132 := Nat.le_trans (Below.size X131) hb133
  change Blk _ _ [(Fl 0), (Fl 0), (Fl 0), (Fl 0), (Fl 0), (Fl 0)] at hB134
  have X141 := Ext.gr X131 E135
  show wpList _ _ _ _ (fr [_, _, _, _, _, _, _, _, _, _, _, _, _, _, _, _, _, _, _, _, _, _, _, _, _, _, _, _, _, _, _, _, _, _, _, _, _, _]) _
  refine seqd rfl rfl (does_alloc z29) ?_; rintro _ w146 ⟨b142, rfl, hb143, hB144, E145⟩
  have n147 : b14 < b142 := Nat.lt_of_lt_of_le (Blk.lt (((((((((hB16.ext E22).ext E37).ext E67).ext E75).wr W81 (Nat.ne_of_lt n69)).wr W85 (Nat.ne_of_lt n77)).ext E90).ext E105).ext E135)) hb143
  have n148 : b64 < b142 := Nat.lt_of_lt_of_le (Blk.lt ((((hB82.wr W85 (Nat.ne_of_lt n78)).ext E90).ext E105).ext E135)) hb143
  have n149 : b72 < b142 := Nat.lt_of_lt_of_le (Blk.lt (((hB86.ext E90).ext E105).ext E135)) hb143
  have n150 : b132 < b142 := Nat.lt_of_lt_of_le (Blk.lt hB134) hb143
  have g151 : w.heap.size ≤ b142 := Nat.le_trans (Below.size X141) hb143
  change Blk _ _ [(Fl 0), (Fl 0), (Fl 0), (Fl 0), (Fl 0), (Fl 0)] at hB144
  have X152 := Ext.gr X141 E145
  show wpList _ _ _ _ (fr [_, _, _, _, _, _, _, _, _, _, _, _, _, _, _, _, _, _, _, _, _, _, _, _, _, _, _, _, _, _, _, _, _, _, _, _, _, _]) _
  refine seqn rfl rfl (does_store (n := 6) (cs := [(Fl 0), (Fl 0), (Fl 0), (Fl 0), (Fl 0), (Fl 0)]) (u := (.agg #[(Fl r107), (Fl r109), (Fl r111), (Fl r113), (Fl r115), (Fl r117)])) (ev rfl) (ev rfl) Try.sizeOf29 rfl (hB134.ext E145) (Nat.le_of_ble_eq_true rfl) rfl) ?_; rintro _ w155 ⟨rfl, W153, hB154⟩
  change Blk _ _ [(Fl r107), (Fl r109), (Fl r111), (Fl r113), (Fl r115), (Fl r117)] at hB154
  have X156 := Below.wr X152 W153 g140
  refine seqn rfl rfl (does_store (n := 6) (cs := [(Fl 0), (Fl 0), (Fl 0), (Fl 0), (Fl 0), (Fl 0)]) (u := (.agg #[(Fl r119), (Fl r121), (Fl r123), (Fl r125), (Fl r127), (Fl r129)])) (ev rfl) (ev rfl) Try.sizeOf29 rfl (hB144.wr W153 (Nat.ne_of_gt n150)) (Nat.le_of_ble_eq_true rfl) rfl) ?_; rintro _ w159 ⟨rfl, W157, hB158⟩
  change Blk _ _ [(Fl r119), (Fl r121), (Fl r123), (Fl r125), (Fl r127), (Fl r129)] at hB158
  have X160 := Below.wr X156 W157 g151
  refine q_is rfl rfl (does_assign (u := (Bo (splitOk A_b))) (ev rfl)) (by dsimp only [List.set]; try rfl) ?_
  refine wpList_nil (hK89 _ _ ?_)
  refine wp_seq_k fun K161 hK161 => ?_
  refine wp_seq_k fun K162 hK162 => ?_
  obtain ⟨β1, hβ1⟩ : ∃ b : Bool, b = (sameB (gvB (splitOk A_b) (oneB A_b)) (gvB (splitOk A_b) (oneB A_b))) := ⟨_, rfl⟩
  obtain ⟨β2, hβ2⟩ : ∃ b : Bool, b = (sameB (gvB (splitOk A_b) (twoB A_b)) (gvB (splitOk A_b) (twoB A_b))) := ⟨_, rfl⟩
  obtain ⟨β3, hβ3⟩ : ∃ b : Bool, b = ((splitOk A_b) != (splitOk A_b)) := ⟨_, rfl⟩
  refine region_text (
    [Fact.pure [] (fun v => v = (.agg #[(Fl r107), (Fl r109), (Fl r111), (Fl r113), (Fl r115), (Fl r117)])),
    Fact.pure [] (fun v => v = (.agg #[(Fl r39), (Fl r41), (Fl r43), (Fl r45), (Fl r47), (Fl r49)])),
    Fact.pure [23, 24] (fun v => v = (Bo β1)),
    Fact.pure [25] (fun v => v = (Bo (!β1))),
    Fact.pure [26] (fun v => v = (Bo (!β1))),
    Fact.pure [27] (fun v => (!β1) = false → v = (.agg #[(Fl r119), (Fl r121), (Fl r123), (Fl r125), (Fl r127), (Fl r129)])),
    Fact.pure [27] (fun v => (!β1) = false → v = (.agg #[(Fl r51), (Fl r53), (Fl r55), (Fl r57), (Fl r59), (Fl r61)])),
    Fact.pure [28, 29, 27] (fun v => (!β1) = false → v = (Bo β2)),
    Fact.pure [30, 27] (fun v => (!β1) = false → v = (Bo (!β2))),
    Fact.pure [27, 31] (fun v => v = (Bo ((!β1) || (!β2)))),
    Fact.pure [32] (fun v => v = (Bo ((!β1) || (!β2)))),
    Fact.pure [33] (fun v => ((!β1) || (!β2)) = false → v = (Bo (splitOk A_b))),
    Fact.pure [33] (fun v => ((!β1) || (!β2)) = false → v = (Bo (splitOk A_b))),
    Fact.pure [34, 35, 33] (fun v => ((!β1) || (!β2)) = false → v = (Bo β3)),
    Fact.pure [33, 36] (fun v => v = (Bo (((!β1) || (!β2)) || β3)))]) (by simp [Fact.pure, Fact.mem]) ?_
  refine RW_d _ rfl (fun v => by dsimp only [List.set]; try rfl) (fun u hu hF => ?_) (fun v163 => ?_)
  · clear hF
    refine doesG_un rfl ?_
    refine (does_loadAgg (cs := [(Fl r107), (Fl r109), (Fl r111), (Fl r113), (Fl r115), (Fl r117)]) (ev rfl) Try.isAgg29 Try.sizeOf29 (Blk.cells ((hB154.wr W157 (Nat.ne_of_lt n150)).ext hu)) rfl).mono ?_; rintro _ _ ⟨rfl, rfl⟩
    exact ⟨rfl, Ext.refl _⟩
  refine RW_d _ rfl (fun v => by dsimp only [List.set]; try rfl) (fun u hu hF => ?_) (fun v164 => ?_)
  · clear hF
    refine doesG_un rfl ?_
    refine (does_loadAgg (cs := [(Fl r39), (Fl r41), (Fl r43), (Fl r45), (Fl r47), (Fl r49)]) (ev rfl) Try.isAgg29 Try.sizeOf29 (Blk.cells ((((((((hB82.wr W85 (Nat.ne_of_lt n78)).ext E90).ext E105).ext E135).ext E145).wr W153 (Nat.ne_of_lt n138)).wr W157 (Nat.ne_of_lt n148)).ext hu)) rfl).mono ?_; rintro _ _ ⟨rfl, rfl⟩
    exact ⟨rfl, Ext.refl _⟩
  refine RW_d _ rfl (fun v => by dsimp only [List.set]; try rfl) (fun u hu hF => ?_) (fun v165 => ?_)
  · have h23_ : v163 = (.agg #[(Fl r107), (Fl r109), (Fl r111), (Fl r113), (Fl r115), (Fl r117)]) := hF.1
    have h24_ : v164 = (.agg #[(Fl r39), (Fl r41), (Fl r43), (Fl r45), (Fl r47), (Fl r49)]) := hF.2.1
    clear hF
    refine doesG_un rfl ?_
    obtain rfl := h23_
    obtain rfl := h24_
    refine (does_call (args := #[(.agg #[(Fl r107), (Fl r109), (Fl r111), (Fl r113), (Fl r115), (Fl r117)]), (.agg #[(Fl r39), (Fl r41), (Fl r43), (Fl r45), (Fl r47), (Fl r49)])]) cal7 (evs rfl) (c_laws_eqBox [(Fl r107), (Fl r109), (Fl r111), (Fl r113), (Fl r115), (Fl r117)] (gvB (splitOk A_b) (oneB A_b)) [(Fl r39), (Fl r41), (Fl r43), (Fl r45), (Fl r47), (Fl r49)] (gvB (splitOk A_b) (oneB A_b)) _ ⟨r107, r109, r111, r113, r115, r117, rfl, h108, h110, h112, h114, h116, h118⟩ ⟨r39, r41, r43, r45, r47, r49, rfl, h40, h42, h44, h46, h48, h50⟩)).mono ?_; rintro v u' ⟨hx, hv⟩
    exact ⟨hv.trans (by simp only [hβ1]), hx⟩
  refine RW_d _ rfl (fun v => by dsimp only [List.set]; try rfl) (fun u hu hF => ?_) (fun v166 => ?_)
  · have h25_ : v165 = (Bo β1) := hF.1
    clear hF
    refine doesG_un rfl ?_
    obtain rfl := h25_
    refine (does_not (ev rfl)).mono ?_; rintro _ _ ⟨rfl, rfl⟩
    exact ⟨rfl, Ext.refl _⟩
  refine RW_d _ rfl (fun v => by dsimp only [List.set]; try rfl) (fun u hu hF => ?_) (fun v167 => ?_)
  · have h26_ : v166 = (Bo (!β1)) := hF.1
    clear hF
    refine doesG_un rfl ?_
    obtain rfl := h26_
    refine (does_move (u := (Bo (!β1))) (ev rfl)).mono ?_; rintro _ _ ⟨rfl, rfl⟩
    exact ⟨rfl, Ext.refl _⟩
  refine RW_d _ rfl (fun v => by dsimp only [List.set]; try rfl) (fun u hu hF => ?_) (fun v168 => ?_)
  · have h27_ : v167 = (Bo (!β1)) := hF.1
    clear hF
    obtain rfl := h27_
    refine doesG_g (b := (!β1)) rfl (yld rfl rfl) (fun hg1 => ?_) (fun hc => ⟨fun hg1 => absurd hg1 hc, Ext.refl _⟩)
    refine (does_loadAgg (cs := [(Fl r119), (Fl r121), (Fl r123), (Fl r125), (Fl r127), (Fl r129)]) (ev rfl) Try.isAgg29 Try.sizeOf29 (Blk.cells (hB158.ext hu)) rfl).mono ?_; rintro _ _ ⟨rfl, rfl⟩
    exact ⟨fun _ => rfl, Ext.refl _⟩
  refine RW_d _ rfl (fun v => by dsimp only [List.set]; try rfl) (fun u hu hF => ?_) (fun v169 => ?_)
  · have h27_ : v167 = (Bo (!β1)) := hF.1
    clear hF
    obtain rfl := h27_
    refine doesG_g (b := (!β1)) rfl (yld rfl rfl) (fun hg1 => ?_) (fun hc => ⟨fun hg1 => absurd hg1 hc, Ext.refl _⟩)
    refine (does_loadAgg (cs := [(Fl r51), (Fl r53), (Fl r55), (Fl r57), (Fl r59), (Fl r61)]) (ev rfl) Try.isAgg29 Try.sizeOf29 (Blk.cells (((((((hB86.ext E90).ext E105).ext E135).ext E145).wr W153 (Nat.ne_of_lt n139)).wr W157 (Nat.ne_of_lt n149)).ext hu)) rfl).mono ?_; rintro _ _ ⟨rfl, rfl⟩
    exact ⟨fun _ => rfl, Ext.refl _⟩
  refine RW_d _ rfl (fun v => by dsimp only [List.set]; try rfl) (fun u hu hF => ?_) (fun v170 => ?_)
  · have h28_ : (!β1) = false → v168 = (.agg #[(Fl r119), (Fl r121), (Fl r123), (Fl r125), (Fl r127), (Fl r129)]) := hF.1
    have h29_ : (!β1) = false → v169 = (.agg #[(Fl r51), (Fl r53), (Fl r55), (Fl r57), (Fl r59), (Fl r61)]) := hF.2.1
    have h27_ : v167 = (Bo (!β1)) := hF.2.2.1
    clear hF
    obtain rfl := h27_
    refine doesG_g (b := (!β1)) rfl (yld rfl rfl) (fun hg1 => ?_) (fun hc => ⟨fun hg1 => absurd hg1 hc, Ext.refl _⟩)
    obtain rfl := h28_ hg1
    obtain rfl := h29_ hg1
    refine (does_call (args := #[(.agg #[(Fl r119), (Fl r121), (Fl r123), (Fl r125), (Fl r127), (Fl r129)]), (.agg #[(Fl r51), (Fl r53), (Fl r55), (Fl r57), (Fl r59), (Fl r61)])]) cal7 (evs rfl) (c_laws_eqBox [(Fl r119), (Fl r121), (Fl r123), (Fl r125), (Fl r127), (Fl r129)] (gvB (splitOk A_b) (twoB A_b)) [(Fl r51), (Fl r53), (Fl r55), (Fl r57), (Fl r59), (Fl r61)] (gvB (splitOk A_b) (twoB A_b)) _ ⟨r119, r121, r123, r125, r127, r129, rfl, h120, h122, h124, h126, h128, h130⟩ ⟨r51, r53, r55, r57, r59, r61, rfl, h52, h54, h56, h58, h60, h62⟩)).mono ?_; rintro v u' ⟨hx, hv⟩
    exact ⟨fun _ => hv.trans (by simp only [hβ2]), hx⟩
  refine RW_d _ rfl (fun v => by dsimp only [List.set]; try rfl) (fun u hu hF => ?_) (fun v171 => ?_)
  · have h30_ : (!β1) = false → v170 = (Bo β2) := hF.1
    have h27_ : v167 = (Bo (!β1)) := hF.2.1
    clear hF
    obtain rfl := h27_
    refine doesG_g (b := (!β1)) rfl (yld rfl rfl) (fun hg1 => ?_) (fun hc => ⟨fun hg1 => absurd hg1 hc, Ext.refl _⟩)
    obtain rfl := h30_ hg1
    refine (does_not (ev rfl)).mono ?_; rintro _ _ ⟨rfl, rfl⟩
    exact ⟨fun _ => rfl, Ext.refl _⟩
  refine RW_d _ rfl (fun v => by dsimp only [List.set]; try rfl) (fun u hu hF => ?_) (fun v172 => ?_)
  · have h27_ : v167 = (Bo (!β1)) := hF.1
    have h31_ : (!β1) = false → v171 = (Bo (!β2)) := hF.2.1
    clear hF
    refine doesG_un rfl ?_
    skip
    obtain rfl := h27_
    refine (does_pick (b := (!β1)) (u := (Bo true)) (v := v171) (ev rfl) (ev rfl) (ev rfl)).mono ?_; rintro _ _ ⟨rfl, rfl⟩; refine ⟨?_, Ext.refl _⟩; skip
    cases hbb : (!β1)
    all_goals first | (show _ = _; simp only [↓reduceIte, Bool.true_and, Bool.false_and, Bool.true_or, Bool.false_or, Bool.false_eq_true]; done) | (have e_ := h31_ hbb; subst e_; show _ = _; simp only [↓reduceIte, Bool.true_and, Bool.false_and, Bool.true_or, Bool.false_or, Bool.false_eq_true]; done) | rfl | (have e_ := h31_ hbb; subst e_; rfl) | (simp [hbb] at h31_ ⊢; first | done | rfl | (subst h31_; rfl) | simp_all) | (simp [hbb] at h31_ ⊢; done)
  refine RW_d _ rfl (fun v => by dsimp only [List.set]; try rfl) (fun u hu hF => ?_) (fun v173 => ?_)
  · have h32_ : v172 = (Bo ((!β1) || (!β2))) := hF.1
    clear hF
    refine doesG_un rfl ?_
    obtain rfl := h32_
    refine (does_move (u := (Bo ((!β1) || (!β2)))) (ev rfl)).mono ?_; rintro _ _ ⟨rfl, rfl⟩
    exact ⟨rfl, Ext.refl _⟩
  refine RW_d _ rfl (fun v => by dsimp only [List.set]; try rfl) (fun u hu hF => ?_) (fun v174 => ?_)
  · have h33_ : v173 = (Bo ((!β1) || (!β2))) := hF.1
    clear hF
    obtain rfl := h33_
    refine doesG_g (b := ((!β1) || (!β2))) rfl (yld rfl rfl) (fun hg1 => ?_) (fun hc => ⟨fun hg1 => absurd hg1 hc, Ext.refl _⟩)
    refine (does_move (u := (Bo (splitOk A_b))) (ev rfl)).mono ?_; rintro _ _ ⟨rfl, rfl⟩
    exact ⟨fun _ => rfl, Ext.refl _⟩
  refine RW_d _ rfl (fun v => by dsimp only [List.set]; try rfl) (fun u hu hF => ?_) (fun v175 => ?_)
  · have h33_ : v173 = (Bo ((!β1) || (!β2))) := hF.1
    clear hF
    obtain rfl := h33_
    refine doesG_g (b := ((!β1) || (!β2))) rfl (yld rfl rfl) (fun hg1 => ?_) (fun hc => ⟨fun hg1 => absurd hg1 hc, Ext.refl _⟩)
    refine (does_move (u := (Bo (splitOk A_b))) (ev rfl)).mono ?_; rintro _ _ ⟨rfl, rfl⟩
    exact ⟨fun _ => rfl, Ext.refl _⟩
  refine RW_d _ rfl (fun v => by dsimp only [List.set]; try rfl) (fun u hu hF => ?_) (fun v176 => ?_)
  · have h34_ : ((!β1) || (!β2)) = false → v174 = (Bo (splitOk A_b)) := hF.1
    have h35_ : ((!β1) || (!β2)) = false → v175 = (Bo (splitOk A_b)) := hF.2.1
    have h33_ : v173 = (Bo ((!β1) || (!β2))) := hF.2.2.1
    clear hF
    obtain rfl := h33_
    refine doesG_g (b := ((!β1) || (!β2))) rfl (yld rfl rfl) (fun hg1 => ?_) (fun hc => ⟨fun hg1 => absurd hg1 hc, Ext.refl _⟩)
    obtain rfl := h34_ hg1
    obtain rfl := h35_ hg1
    refine (does_bne (p := (splitOk A_b)) (q := (splitOk A_b)) Try.underlying4 (ev rfl) (ev rfl)).mono ?_; rintro _ _ ⟨rfl, rfl⟩
    exact ⟨fun _ => (by first | rfl | (show _ = _; simp only [hβ3]; done) | (show _ = _; simp only [hβ3]; rfl)), Ext.refl _⟩
  refine RW_d _ rfl (fun v => by dsimp only [List.set]; try rfl) (fun u hu hF => ?_) (fun v177 => ?_)
  · have h33_ : v173 = (Bo ((!β1) || (!β2))) := hF.1
    have h36_ : ((!β1) || (!β2)) = false → v176 = (Bo β3) := hF.2.1
    clear hF
    refine doesG_un rfl ?_
    skip
    obtain rfl := h33_
    refine (does_pick (b := ((!β1) || (!β2))) (u := (Bo true)) (v := v176) (ev rfl) (ev rfl) (ev rfl)).mono ?_; rintro _ _ ⟨rfl, rfl⟩; refine ⟨?_, Ext.refl _⟩; skip
    cases hbb : ((!β1) || (!β2))
    all_goals first | (show _ = _; simp only [↓reduceIte, Bool.true_and, Bool.false_and, Bool.true_or, Bool.false_or, Bool.false_eq_true]; done) | (have e_ := h36_ hbb; subst e_; show _ = _; simp only [↓reduceIte, Bool.true_and, Bool.false_and, Bool.true_or, Bool.false_or, Bool.false_eq_true]; done) | rfl | (have e_ := h36_ hbb; subst e_; rfl) | (simp [hbb] at h36_ ⊢; first | done | rfl | (subst h36_; rfl) | simp_all) | (simp [hbb] at h36_ ⊢; done)
  refine RW_fin ?_; intro w178 E179 hP180
  obtain ⟨⟨⟨⟨⟨⟨⟨⟨⟨⟨⟨⟨⟨⟨⟨-, -⟩, -⟩, -⟩, -⟩, -⟩, -⟩, -⟩, -⟩, -⟩, -⟩, -⟩, -⟩, -⟩, -⟩, q181⟩ := hP180
  have X182 := Ext.gr X160 E179
  have q181 : v177 = (Bo (((!β1) || (!β2)) || β3)) := q181
  obtain rfl := q181
  show wpList _ _ _ _ (fr [_, _, _, _, _, _, _, _, _, _, _, _, _, _, _, _, _, _, _, _, _, _, _, _, _, _, _, _, _, _, _, _, _, _, _, _, _, _]) _
  refine wpList_nil (hK162 _ _ ?_)
  refine wp_cond_split (t := ((!β1) || (!β2)) || β3) (ev rfl) (fun c183 => ?_) (fun c183 => ?_)
  · have c183' := c183
    (try simp only [hβ1, hβ2, hβ3] at c183')
    (try simp only [icmp, Bool.and_eq_true, Bool.or_eq_true, Bool.and_eq_false_iff, Bool.or_eq_false_iff, Bool.not_eq_true', Bool.not_eq_false', decide_eq_true_eq, decide_eq_false_iff_not, beq_iff_eq, bne_iff_ne, beq_eq_false_iff_ne, bne_eq_false_iff_eq] at c183')
    refine wp_seq_k fun K184 hK184 => ?_
    refine wp_region_lit ?_
    refine q_is rfl rfl (does_assign (u := (Bo false)) (ev rfl)) (by dsimp only [List.set]; try rfl) ?_
    refine wpList_nil (hK184 _ _ ?_)
    refine wp_ret ?_
    dsimp only [Exit.then, Exit.inBlock]
    refine ret_val (v := (Bo false)) (res_T rfl (slot rfl)) X182 ?_
    try simp only [h2, h4, h6, h8, h10, h12, h25, h27, h29, h31, h33, h35, h40, h42, h44, h46, h48, h50, h52, h54, h56, h58, h60, h62, h93, h95, h97, h99, h101, h103, h108, h110, h112, h114, h116, h118, h120, h122, h124, h126, h128, h130, hβ1, hβ2, hβ3] at c183
    have x185 : true = false := by first | with_reducible rfl | (simp only [sameB_self, bne_self_eq_false, h2, h4, h6, h8, h10, h12, h25, h27, h29, h31, h33, h35, h40, h42, h44, h46, h48, h50, h52, h54, h56, h58, h60, h62, h93, h95, h97, h99, h101, h103, h108, h110, h112, h114, h116, h118, h120, h122, h124, h126, h128, h130, hβ1, hβ2, hβ3, c183]; done) | (simp [sameB_self, bne_self_eq_false, h2, h4, h6, h8, h10, h12, h25, h27, h29, h31, h33, h35, h40, h42, h44, h46, h48, h50, h52, h54, h56, h58, h60, h62, h93, h95, h97, h99, h101, h103, h108, h110, h112, h114, h116, h118, h120, h122, h124, h126, h128, h130, hβ1, hβ2, hβ3, c183]; done) | (revert c183; simp +contextual [sameB_self, bne_self_eq_false, h2, h4, h6, h8, h10, h12, h25, h27, h29, h31, h33, h35, h40, h42, h44, h46, h48, h50, h52, h54, h56, h58, h60, h62, h93, h95, h97, h99, h101, h103, h108, h110, h112, h114, h116, h118, h120, h122, h124, h126, h128, h130, hβ1, hβ2, hβ3]; done) | (rcases c183' with hh | hh <;> simp only [hh, sameB_self, bne_self_eq_false, h2, h4, h6, h8, h10, h12, h25, h27, h29, h31, h33, h35, h40, h42, h44, h46, h48, h50, h52, h54, h56, h58, h60, h62, h93, h95, h97, h99, h101, h103, h108, h110, h112, h114, h116, h118, h120, h122, h124, h126, h128, h130, hβ1, hβ2, hβ3, c183]; done) | (rcases c183' with hh | hh <;> simp_all [sameB_self, bne_self_eq_false]; done) | (rcases c183' with hh | hh | hh <;> simp_all [sameB_self, bne_self_eq_false]; done) | (rcases c183' with hh | hh | hh | hh <;> simp_all [sameB_self, bne_self_eq_false]; done) | (simp_all [sameB_self, bne_self_eq_false]; done) | rfl
    exact (by first | with_reducible rfl | rw [x185] | rfl)
  have c183' := c183
  (try simp only [hβ1, hβ2, hβ3] at c183')
  (try simp only [icmp, Bool.and_eq_true, Bool.or_eq_true, Bool.and_eq_false_iff, Bool.or_eq_false_iff, Bool.not_eq_true', Bool.not_eq_false', decide_eq_true_eq, decide_eq_false_iff_not, beq_iff_eq, bne_iff_ne, beq_eq_false_iff_ne, bne_eq_false_iff_eq] at c183')
  refine wp_skip (hK161 _ _ ?_)
  refine wp_seq_k fun K186 hK186 => ?_
  refine wp_region_lit ?_
  refine q_is rfl rfl (does_assign (u := (Bo true)) (ev rfl)) (by dsimp only [List.set]; try rfl) ?_
  refine wpList_nil (hK186 _ _ ?_)
  refine wp_ret ?_
  refine ret_val (v := (Bo true)) (res_T rfl (slot rfl)) X182 ?_
  try simp only [h2, h4, h6, h8, h10, h12, h25, h27, h29, h31, h33, h35, h40, h42, h44, h46, h48, h50, h52, h54, h56, h58, h60, h62, h93, h95, h97, h99, h101, h103, h108, h110, h112, h114, h116, h118, h120, h122, h124, h126, h128, h130, hβ1, hβ2, hβ3] at c183
  exact rfl

end Go.Proofs.Ythffielpjjggeaa
