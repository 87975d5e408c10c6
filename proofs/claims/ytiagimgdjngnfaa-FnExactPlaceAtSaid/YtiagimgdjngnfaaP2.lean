/- contracts of functions, each walked once -/
import Derived.Test.YtiagimgdjngnfaaP
namespace Go.Proofs.Ytiagimgdjngnfaa
open Go Go.RowKit
set_option maxRecDepth 100000
set_option maxHeartbeats 3200000
set_option linter.unusedVariables false
set_option linter.unusedSimpArgs false

/- spec.l10Keys -/
theorem c_spec_l10Keys (ks : Value) (L_ks : List KeyT) (w : World) (hv_ks : Sl RKeyT 4 w ks L_ks) : Gives Try.prog 65 #[ks] w (fun v w' => v = (Bo (keysOk L_ks))) := by
  have hlen_ks := Sl.len hv_ks; obtain ⟨p_ks, q_ks, rfl⟩ := Sl.shape hv_ks
  refine enter [(.slice p_ks L_ks.length q_ks), Ud, Ud, Ud, Ud, Ud, Ud, Ud, Ud, Ud, Ud, Ud, Ud, Ud, Ud, Ud, Ud, Ud, Ud, Ud, Ud, Ud, Ud, Ud, Ud, Ud, Ud, Ud, Ud, Ud, Ud, Ud, Ud, Ud, Ud, Ud, Ud, Ud, Ud, Ud, Ud, Ud] Try.func65 rfl Try.ntmps65 rfl ?_
  refine wp_seq_k fun K1 hK1 => ?_
  refine wp_region_lit ?_
  refine q_is rfl rfl (does_assign (u := (Bo false)) (ev rfl)) (by dsimp only [List.set]; try rfl) ?_
  refine wpList_nil (hK1 _ _ ?_)
  refine wp_seq_k fun K2 hK2 => ?_
  refine wp_seq_k fun K3 hK3 => ?_
  obtain ⟨β1, hβ1⟩ : ∃ b : Bool, b = (icmp .lss (L_ks.length : Int) 1) := ⟨_, rfl⟩
  obtain ⟨β2, hβ2⟩ : ∃ b : Bool, b = (icmp .gtr (L_ks.length : Int) 8) := ⟨_, rfl⟩
  refine region_text (
    [Fact.pure [] (fun v => v = (.slice p_ks L_ks.length q_ks)),
    Fact.pure [5] (fun v => v = (Iv (L_ks.length : Int))),
    Fact.pure [6] (fun v => v = (Bo β1)),
    Fact.pure [7] (fun v => v = (Bo β1)),
    Fact.pure [8] (fun v => β1 = false → v = (.slice p_ks L_ks.length q_ks)),
    Fact.pure [9, 8] (fun v => β1 = false → v = (Iv (L_ks.length : Int))),
    Fact.pure [10, 8] (fun v => β1 = false → v = (Bo β2)),
    Fact.pure [8, 11] (fun v => v = (Bo (β1 || β2)))]) (by simp [Fact.pure, Fact.mem]) ?_
  refine RW_d _ rfl (fun v => by dsimp only [List.set]; try rfl) (fun u hu hF => ?_) (fun v4 => ?_)
  · clear hF
    refine doesG_un rfl ?_
    refine (does_move (u := (.slice p_ks L_ks.length q_ks)) (ev rfl)).mono ?_; rintro _ _ ⟨rfl, rfl⟩
    exact ⟨rfl, Ext.refl _⟩
  refine RW_d _ rfl (fun v => by dsimp only [List.set]; try rfl) (fun u hu hF => ?_) (fun v5 => ?_)
  · have h5_ : v4 = (.slice p_ks L_ks.length q_ks) := hF.1
    clear hF
    refine doesG_un rfl ?_
    obtain rfl := h5_
    refine (does_len_slice Try.underlying43 (ev rfl)).mono ?_; rintro _ _ ⟨rfl, rfl⟩
    exact ⟨rfl, Ext.refl _⟩
  refine RW_d _ rfl (fun v => by dsimp only [List.set]; try rfl) (fun u hu hF => ?_) (fun v6 => ?_)
  · have h6_ : v5 = (Iv (L_ks.length : Int)) := hF.1
    clear hF
    refine doesG_un rfl ?_
    obtain rfl := h6_
    refine (does_icmp (p := (L_ks.length : Int)) (q := 1) (.inr (.inr (.inl rfl))) (ev rfl) (ev rfl)).mono ?_; rintro _ _ ⟨rfl, rfl⟩
    exact ⟨(by first | rfl | (show _ = _; simp only [hβ1]; done) | (show _ = _; simp only [hβ1]; rfl)), Ext.refl _⟩
  refine RW_d _ rfl (fun v => by dsimp only [List.set]; try rfl) (fun u hu hF => ?_) (fun v7 => ?_)
  · have h7_ : v6 = (Bo β1) := hF.1
    clear hF
    refine doesG_un rfl ?_
    obtain rfl := h7_
    refine (does_move (u := (Bo β1)) (ev rfl)).mono ?_; rintro _ _ ⟨rfl, rfl⟩
    exact ⟨rfl, Ext.refl _⟩
  refine RW_d _ rfl (fun v => by dsimp only [List.set]; try rfl) (fun u hu hF => ?_) (fun v8 => ?_)
  · have h8_ : v7 = (Bo β1) := hF.1
    clear hF
    obtain rfl := h8_
    refine doesG_g (b := β1) rfl (yld rfl rfl) (fun hg1 => ?_) (fun hc => ⟨fun hg1 => absurd hg1 hc, Ext.refl _⟩)
    refine (does_move (u := (.slice p_ks L_ks.length q_ks)) (ev rfl)).mono ?_; rintro _ _ ⟨rfl, rfl⟩
    exact ⟨fun _ => rfl, Ext.refl _⟩
  refine RW_d _ rfl (fun v => by dsimp only [List.set]; try rfl) (fun u hu hF => ?_) (fun v9 => ?_)
  · have h9_ : β1 = false → v8 = (.slice p_ks L_ks.length q_ks) := hF.1
    have h8_ : v7 = (Bo β1) := hF.2.1
    clear hF
    obtain rfl := h8_
    refine doesG_g (b := β1) rfl (yld rfl rfl) (fun hg1 => ?_) (fun hc => ⟨fun hg1 => absurd hg1 hc, Ext.refl _⟩)
    obtain rfl := h9_ hg1
    refine (does_len_slice Try.underlying43 (ev rfl)).mono ?_; rintro _ _ ⟨rfl, rfl⟩
    exact ⟨fun _ => rfl, Ext.refl _⟩
  refine RW_d _ rfl (fun v => by dsimp only [List.set]; try rfl) (fun u hu hF => ?_) (fun v10 => ?_)
  · have h10_ : β1 = false → v9 = (Iv (L_ks.length : Int)) := hF.1
    have h8_ : v7 = (Bo β1) := hF.2.1
    clear hF
    obtain rfl := h8_
    refine doesG_g (b := β1) rfl (yld rfl rfl) (fun hg1 => ?_) (fun hc => ⟨fun hg1 => absurd hg1 hc, Ext.refl _⟩)
    obtain rfl := h10_ hg1
    refine (does_icmp (p := (L_ks.length : Int)) (q := 8) (.inr (.inr (.inr (.inr (.inl rfl))))) (ev rfl) (ev rfl)).mono ?_; rintro _ _ ⟨rfl, rfl⟩
    exact ⟨fun _ => (by first | rfl | (show _ = _; simp only [hβ2]; done) | (show _ = _; simp only [hβ2]; rfl)), Ext.refl _⟩
  refine RW_d _ rfl (fun v => by dsimp only [List.set]; try rfl) (fun u hu hF => ?_) (fun v11 => ?_)
  · have h8_ : v7 = (Bo β1) := hF.1
    have h11_ : β1 = false → v10 = (Bo β2) := hF.2.1
    clear hF
    refine doesG_un rfl ?_
    skip
    obtain rfl := h8_
    refine (does_pick (b := β1) (u := (Bo true)) (v := v10) (ev rfl) (ev rfl) (ev rfl)).mono ?_; rintro _ _ ⟨rfl, rfl⟩; refine ⟨?_, Ext.refl _⟩; skip
    cases hbb : β1
    all_goals first | (show _ = _; simp only [↓reduceIte, Bool.true_and, Bool.false_and, Bool.true_or, Bool.false_or, Bool.false_eq_true]; done) | (have e_ := h11_ hbb; subst e_; show _ = _; simp only [↓reduceIte, Bool.true_and, Bool.false_and, Bool.true_or, Bool.false_or, Bool.false_eq_true]; done) | rfl | (have e_ := h11_ hbb; subst e_; rfl) | (simp [hbb] at h11_ ⊢; first | done | rfl | (subst h11_; rfl) | simp_all) | (simp [hbb] at h11_ ⊢; done)
  refine RW_fin ?_; intro w12 E13 hP14
  obtain ⟨⟨⟨⟨⟨⟨⟨⟨-, -⟩, -⟩, -⟩, -⟩, -⟩, -⟩, -⟩, q15⟩ := hP14
  have X16 := Ext.gr (Ext.refl w) E13
  have q15 : v11 = (Bo (β1 || β2)) := q15
  obtain rfl := q15
  show wpList _ _ _ _ (fr [_, _, _, _, _, _, _, _, _, _, _, _, _, _, _, _, _, _, _, _, _, _, _, _, _, _, _, _, _, _, _, _, _, _, _, _, _, _, _, _, _, _]) _
  refine wpList_nil (hK3 _ _ ?_)
  refine wp_cond_split (t := β1 || β2) (ev rfl) (fun c17 => ?_) (fun c17 => ?_)
  · have c17' := c17
    (try simp only [hβ1, hβ2] at c17')
    (try simp only [icmp, Bool.and_eq_true, Bool.or_eq_true, Bool.and_eq_false_iff, Bool.or_eq_false_iff, Bool.not_eq_true', Bool.not_eq_false', decide_eq_true_eq, decide_eq_false_iff_not, beq_iff_eq, bne_iff_ne, beq_eq_false_iff_ne, bne_eq_false_iff_eq] at c17')
    refine wp_seq_k fun K18 hK18 => ?_
    refine wp_region_lit ?_
    refine q_is rfl rfl (does_assign (u := (Bo false)) (ev rfl)) (by dsimp only [List.set]; try rfl) ?_
    refine wpList_nil (hK18 _ _ ?_)
    refine wp_ret ?_
    dsimp only [Exit.then, Exit.inBlock]
    refine ret_val (v := (Bo false)) (res_T rfl (slot rfl)) X16 ?_
    try simp only [hβ1, hβ2] at c17
    have x19 : (keysOk L_ks) = false := by first | exact keysOk_len (by omega) | exact keysOk_bad (by omega) hkb | (rw [keysOk_ok hkt (by omega)]; exact inI_iff.2 (by omega))
    exact (by first | with_reducible rfl | rw [x19] | rfl)
  have c17' := c17
  (try simp only [hβ1, hβ2] at c17')
  (try simp only [icmp, Bool.and_eq_true, Bool.or_eq_true, Bool.and_eq_false_iff, Bool.or_eq_false_iff, Bool.not_eq_true', Bool.not_eq_false', decide_eq_true_eq, decide_eq_false_iff_not, beq_iff_eq, bne_iff_ne, beq_eq_false_iff_ne, bne_eq_false_iff_eq] at c17')
  refine wp_skip (hK2 _ _ ?_)
  refine wp_seq_k fun K20 hK20 => ?_
  refine wp_region_lit ?_
  refine q_is rfl rfl (does_assign (u := (Iv (-1))) (ev rfl)) (by dsimp only [List.set]; try rfl) ?_
  refine wpList_nil (hK20 _ _ ?_)
  refine wp_seq_k fun K21 hK21 => ?_
  refine wp_seq_k fun K22 hK22 => ?_
  refine wp_region_lit ?_
  refine q_is rfl rfl (does_assign (u := (Iv 0)) (ev rfl)) (by dsimp only [List.set]; try rfl) ?_
  refine wpList_nil (hK22 _ _ ?_)
  refine wp_block ?_
  refine loop_ghost (σ := Nat) (fun k a w' => ∃ u23 : Nat → Value, a = fr [(.slice p_ks L_ks.length q_ks), Ud, (u23 2), (Iv (lastK L_ks k)), (Iv (k : Int)), v4, v5, v6, v7, v8, v9, v10, (Bo (β1 || β2)), (u23 13), (u23 14), (u23 15), (u23 16), (u23 17), (u23 18), (u23 19), (u23 20), (u23 21), (u23 22), (u23 23), (u23 24), (u23 25), (u23 26), (u23 27), (u23 28), (u23 29), (u23 30), (u23 31), (u23 32), (u23 33), (u23 34), (u23 35), (u23 36), (u23 37), (u23 38), (u23 39), (u23 40), (u23 41)] ∧ Ext w12 w' ∧ (k ≤ L_ks.length ∧ KeyTo L_ks k)) (fun k => L_ks.length - k) 0 ?_ ?_
  · refine ⟨fun t => (([(.slice p_ks L_ks.length q_ks), Ud, (Bo false), (Iv (-1)), (Iv 0), v4, v5, v6, v7, v8, v9, v10, (Bo (β1 || β2)), Ud, Ud, Ud, Ud, Ud, Ud, Ud, Ud, Ud, Ud, Ud, Ud, Ud, Ud, Ud, Ud, Ud, Ud, Ud, Ud, Ud, Ud, Ud, Ud, Ud, Ud, Ud, Ud, Ud] : List Value)[t]?).getD undef, rfl, Ext.refl _, ?_⟩
    exact ⟨Nat.zero_le _, KeyTo.zero⟩
  · rintro k a w24 ⟨u23, rfl, E25, ⟨hk, hkt⟩⟩
    have X27 := Ext.gr X16 E25
    have hlb := lastK_bd hkt
    refine wp_seq_k fun K28 hK28 => ?_
    refine wp_seq_k fun K29 hK29 => ?_
    refine wp_region_lit ?_
    refine q_is rfl rfl (does_move (u := (Iv (k : Int))) (ev rfl)) (by dsimp only [List.set]; try rfl) ?_
    refine q_is rfl rfl (does_move (u := (.slice p_ks L_ks.length q_ks)) (ev rfl)) (by dsimp only [List.set]; try rfl) ?_
    refine q_is rfl rfl (does_len_slice Try.underlying43 (ev rfl)) (by dsimp only [List.set]; try rfl) ?_
    refine q_is rfl rfl (does_icmp (p := (k : Int)) (q := (L_ks.length : Int)) (.inr (.inr (.inl rfl))) (ev rfl) (ev rfl)) (by dsimp only [List.set]; try rfl) ?_
    refine wpList_nil (hK29 _ _ ?_)
    refine wp_cond_split (t := icmp .lss (k : Int) (L_ks.length : Int)) (ev rfl) (fun c30 => ?_) (fun c30 => ?_)
    · have c30' := c30
      (try simp only [hβ1, hβ2] at c30')
      (try simp only [icmp, Bool.and_eq_true, Bool.or_eq_true, Bool.and_eq_false_iff, Bool.or_eq_false_iff, Bool.not_eq_true', Bool.not_eq_false', decide_eq_true_eq, decide_eq_false_iff_not, beq_iff_eq, bne_iff_ne, beq_eq_false_iff_ne, bne_eq_false_iff_eq] at c30')
      refine wp_skip (hK28 _ _ ?_)
      refine wp_seq_k fun K31 hK31 => ?_
      refine wp_block ?_
      refine wp_seq_k fun K32 hK32 => ?_
      refine wp_seq_k fun K33 hK33 => ?_
      obtain ⟨el1, hel1⟩ : ∃ e, L_ks[k]? = some e := ⟨_, List.getElem?_eq_getElem (by omega)⟩
      obtain ⟨β3, hβ3⟩ : ∃ b : Bool, b = (inI el1.at_ ((lastK L_ks k) + 1) 10000) := ⟨_, rfl⟩
      obtain ⟨β4, hβ4⟩ : ∃ b : Bool, b = ((!β3) || (!(finV el1.place))) := ⟨_, rfl⟩
      refine region_text (
        [Fact.pure [] (fun v => v = (.slice p_ks L_ks.length q_ks)),
    Fact.pure [] (fun v => v = (Iv (k : Int))),
    Fact.mem [19, 20] (fun v w' => PtrR RKeyT w' v el1) (by intro v w1 w2 hx h; exact h.ext RKeyT.mono hx),
    Fact.mem [21] (fun v w' => ∃ b o cs, v = .pointer (some ⟨b, o + 0, none⟩) ∧ Cells w' b o cs ∧ RKeyT w' el1 cs) (by intro v w1 w2 hx h; obtain ⟨b, o, cs, hv, hc, hr⟩ := h; exact ⟨b, o, cs, hv, hc.ext hx, RKeyT.mono _ _ _ _ hx hr⟩),
    Fact.pure [22] (fun v => v = (Iv el1.at_)),
    Fact.pure [] (fun v => v = (Iv (lastK L_ks k))),
    Fact.pure [24] (fun v => v = (Iv ((lastK L_ks k) + 1))),
    Fact.pure [23, 25] (fun v => v = (Bo β3)),
    Fact.pure [26] (fun v => v = (Bo (!β3))),
    Fact.pure [27] (fun v => v = (Bo (!β3))),
    Fact.pure [28] (fun v => (!β3) = false → v = (.slice p_ks L_ks.length q_ks)),
    Fact.pure [28] (fun v => (!β3) = false → v = (Iv (k : Int))),
    Fact.mem [29, 30, 28] (fun v w' => (!β3) = false → PtrR RKeyT w' v el1) (by intro v w1 w2 hx h; exact fun hg1 => (h hg1).ext RKeyT.mono hx),
    Fact.mem [31, 28] (fun v w' => (!β3) = false → ∃ b o cs, v = .pointer (some ⟨b, o + 1, none⟩) ∧ Cells w' b o cs ∧ RKeyT w' el1 cs) (by intro v w1 w2 hx h hg1; obtain ⟨b, o, cs, hv, hc, hr⟩ := h hg1; exact ⟨b, o, cs, hv, hc.ext hx, RKeyT.mono _ _ _ _ hx hr⟩),
    Fact.pure [32, 28] (fun v => (!β3) = false → ∃ cs_1 : List Value, v = (.agg cs_1.toArray) ∧ RV3 w el1.place cs_1),
    Fact.pure [33, 28] (fun v => (!β3) = false → v = (Bo (finV el1.place))),
    Fact.pure [34, 28] (fun v => (!β3) = false → v = (Bo (!(finV el1.place)))),
    Fact.pure [28, 35] (fun v => v = (Bo β4))]) (by simp [Fact.pure, Fact.mem]) ?_
      refine RW_d _ rfl (fun v => by dsimp only [List.set]; try rfl) (fun u hu hF => ?_) (fun v34 => ?_)
      · clear hF
        refine doesG_un rfl ?_
        refine (does_move (u := (.slice p_ks L_ks.length q_ks)) (ev rfl)).mono ?_; rintro _ _ ⟨rfl, rfl⟩
        exact ⟨rfl, Ext.refl _⟩
      refine RW_d _ rfl (fun v => by dsimp only [List.set]; try rfl) (fun u hu hF => ?_) (fun v35 => ?_)
      · clear hF
        refine doesG_un rfl ?_
        refine (does_move (u := (Iv (k : Int))) (ev rfl)).mono ?_; rintro _ _ ⟨rfl, rfl⟩
        exact ⟨rfl, Ext.refl _⟩
      refine RW_d _ rfl (fun v => by dsimp only [List.set]; try rfl) (fun u hu hF => ?_) (fun v36 => ?_)
      · have h19_ : v34 = (.slice p_ks L_ks.length q_ks) := hF.1
        have h20_ : v35 = (Iv (k : Int)) := hF.2.1
        clear hF
        refine doesG_un rfl ?_
        obtain rfl := h19_
        obtain rfl := h20_
        refine (does_indexSl (R := RKeyT) (i := (k : Int)) (xs := L_ks) (e := el1) Try.underlying43 Try.sizeOf119 (ev rfl) (ev rfl) (Sl.ext (Sl.ext hv_ks RKeyT.mono X27) RKeyT.mono hu) (by omega) hel1).mono ?_; rintro v u' ⟨b, of, cs, hv, hc, hR, hu'⟩; subst hu'
        exact ⟨⟨b, of, cs, hv, hc, hR⟩, Ext.refl _⟩
      refine RW_d _ rfl (fun v => by dsimp only [List.set]; try rfl) (fun u hu hF => ?_) (fun v37 => ?_)
      · have h21_ : PtrR RKeyT u v36 el1 := hF.1
        clear hF
        refine doesG_un rfl ?_
        obtain ⟨b21_, o21_, cs, rfl, hc, hr⟩ := h21_
        refine (does_fieldAddr (ev rfl) fa119_0).mono ?_; rintro _ _ ⟨rfl, rfl⟩; exact ⟨⟨_, _, _, rfl, hc, hr⟩, Ext.refl _⟩
      refine RW_d _ rfl (fun v => by dsimp only [List.set]; try rfl) (fun u hu hF => ?_) (fun v38 => ?_)
      · have h22_ : ∃ b o cs, v37 = .pointer (some ⟨b, o + 0, none⟩) ∧ Cells u b o cs ∧ RKeyT u el1 cs := hF.1
        clear hF
        refine doesG_un rfl ?_
        obtain ⟨b22_, o22_, _, rfl, hc22_, ⟨r22_1, r22_3, r22_5, rfl, h22_2, h22_4, h22_6⟩⟩ := h22_
        refine (does_load (u := (Iv el1.at_)) (ev rfl) Try.isAgg2 (Cells.at hc22_ 0 rfl)).mono ?_; rintro _ _ ⟨rfl, rfl⟩
        exact ⟨rfl, Ext.refl _⟩
      refine RW_d _ rfl (fun v => by dsimp only [List.set]; try rfl) (fun u hu hF => ?_) (fun v39 => ?_)
      · clear hF
        refine doesG_un rfl ?_
        refine (does_move (u := (Iv (lastK L_ks k))) (ev rfl)).mono ?_; rintro _ _ ⟨rfl, rfl⟩
        exact ⟨rfl, Ext.refl _⟩
      refine RW_d _ rfl (fun v => by dsimp only [List.set]; try rfl) (fun u hu hF => ?_) (fun v40 => ?_)
      · have h24_ : v39 = (Iv (lastK L_ks k)) := hF.1
        clear hF
        refine doesG_un rfl ?_
        obtain rfl := h24_
        refine (does_iarith (p := lastK L_ks k) (q := 1) (r := (lastK L_ks k) + 1) (ev rfl) (ev rfl) (.inl ⟨rfl, (in_i64 (by omega) (by omega)).symm⟩)).mono ?_; rintro _ _ ⟨rfl, rfl⟩
        exact ⟨rfl, Ext.refl _⟩
      refine RW_d _ rfl (fun v => by dsimp only [List.set]; try rfl) (fun u hu hF => ?_) (fun v41 => ?_)
      · have h23_ : v38 = (Iv el1.at_) := hF.1
        have h25_ : v40 = (Iv ((lastK L_ks k) + 1)) := hF.2.1
        clear hF
        refine doesG_un rfl ?_
        obtain rfl := h23_
        obtain rfl := h25_
        refine (does_call (args := #[(Iv el1.at_), (Iv ((lastK L_ks k) + 1)), (Iv 10000)]) cal66 (evs rfl) (c_spec_l00In el1.at_ ((lastK L_ks k) + 1) 10000 _)).mono ?_; rintro v u' ⟨hx, hv⟩
        exact ⟨hv.trans (by simp only [hβ3]), hx⟩
      refine RW_d _ rfl (fun v => by dsimp only [List.set]; try rfl) (fun u hu hF => ?_) (fun v42 => ?_)
      · have h26_ : v41 = (Bo β3) := hF.1
        clear hF
        refine doesG_un rfl ?_
        obtain rfl := h26_
        refine (does_not (ev rfl)).mono ?_; rintro _ _ ⟨rfl, rfl⟩
        exact ⟨rfl, Ext.refl _⟩
      refine RW_d _ rfl (fun v => by dsimp only [List.set]; try rfl) (fun u hu hF => ?_) (fun v43 => ?_)
      · have h27_ : v42 = (Bo (!β3)) := hF.1
        clear hF
        refine doesG_un rfl ?_
        obtain rfl := h27_
        refine (does_move (u := (Bo (!β3))) (ev rfl)).mono ?_; rintro _ _ ⟨rfl, rfl⟩
        exact ⟨rfl, Ext.refl _⟩
      refine RW_d _ rfl (fun v => by dsimp only [List.set]; try rfl) (fun u hu hF => ?_) (fun v44 => ?_)
      · have h28_ : v43 = (Bo (!β3)) := hF.1
        clear hF
        obtain rfl := h28_
        refine doesG_g (b := (!β3)) rfl (yld rfl rfl) (fun hg1 => ?_) (fun hc => ⟨fun hg1 => absurd hg1 hc, Ext.refl _⟩)
        refine (does_move (u := (.slice p_ks L_ks.length q_ks)) (ev rfl)).mono ?_; rintro _ _ ⟨rfl, rfl⟩
        exact ⟨fun _ => rfl, Ext.refl _⟩
      refine RW_d _ rfl (fun v => by dsimp only [List.set]; try rfl) (fun u hu hF => ?_) (fun v45 => ?_)
      · have h28_ : v43 = (Bo (!β3)) := hF.1
        clear hF
        obtain rfl := h28_
        refine doesG_g (b := (!β3)) rfl (yld rfl rfl) (fun hg1 => ?_) (fun hc => ⟨fun hg1 => absurd hg1 hc, Ext.refl _⟩)
        refine (does_move (u := (Iv (k : Int))) (ev rfl)).mono ?_; rintro _ _ ⟨rfl, rfl⟩
        exact ⟨fun _ => rfl, Ext.refl _⟩
      refine RW_d _ rfl (fun v => by dsimp only [List.set]; try rfl) (fun u hu hF => ?_) (fun v46 => ?_)
      · have h29_ : (!β3) = false → v44 = (.slice p_ks L_ks.length q_ks) := hF.1
        have h30_ : (!β3) = false → v45 = (Iv (k : Int)) := hF.2.1
        have h28_ : v43 = (Bo (!β3)) := hF.2.2.1
        clear hF
        obtain rfl := h28_
        refine doesG_g (b := (!β3)) rfl (yld rfl rfl) (fun hg1 => ?_) (fun hc => ⟨fun hg1 => absurd hg1 hc, Ext.refl _⟩)
        obtain rfl := h29_ hg1
        obtain rfl := h30_ hg1
        refine (does_indexSl (R := RKeyT) (i := (k : Int)) (xs := L_ks) (e := el1) Try.underlying43 Try.sizeOf119 (ev rfl) (ev rfl) (Sl.ext (Sl.ext hv_ks RKeyT.mono X27) RKeyT.mono hu) (by first | omega | (simp only [hβ3, icmp, Bool.or_eq_false_iff, Bool.not_eq_false', Bool.not_eq_true', decide_eq_true_eq, decide_eq_false_iff_not, bne_eq_false_iff_eq] at hg1; omega) | (simp only [hβ3, icmp, Bool.or_eq_false_iff, Bool.not_eq_false', Bool.not_eq_true', decide_eq_true_eq, decide_eq_false_iff_not, bne_eq_false_iff_eq] at hg1 hg2; omega)) hel1).mono ?_; rintro v u' ⟨b, of, cs, hv, hc, hR, hu'⟩; subst hu'
        exact ⟨fun _ => ⟨b, of, cs, hv, hc, hR⟩, Ext.refl _⟩
      refine RW_d _ rfl (fun v => by dsimp only [List.set]; try rfl) (fun u hu hF => ?_) (fun v47 => ?_)
      · have h31_ : (!β3) = false → PtrR RKeyT u v46 el1 := hF.1
        have h28_ : v43 = (Bo (!β3)) := hF.2.1
        clear hF
        obtain rfl := h28_
        refine doesG_g (b := (!β3)) rfl (yld rfl rfl) (fun hg1 => ?_) (fun hc => ⟨fun hg1 => absurd hg1 hc, Ext.refl _⟩)
        obtain ⟨b31_, o31_, cs, rfl, hc, hr⟩ := h31_ hg1
        refine (does_fieldAddr (ev rfl) fa119_1).mono ?_; rintro _ _ ⟨rfl, rfl⟩; exact ⟨fun _ => ⟨_, _, _, rfl, hc, hr⟩, Ext.refl _⟩
      refine RW_d _ rfl (fun v => by dsimp only [List.set]; try rfl) (fun u hu hF => ?_) (fun v48 => ?_)
      · have h32_ : (!β3) = false → ∃ b o cs, v47 = .pointer (some ⟨b, o + 1, none⟩) ∧ Cells u b o cs ∧ RKeyT u el1 cs := hF.1
        have h28_ : v43 = (Bo (!β3)) := hF.2.1
        clear hF
        obtain rfl := h28_
        refine doesG_g (b := (!β3)) rfl (yld rfl rfl) (fun hg1 => ?_) (fun hc => ⟨fun hg1 => absurd hg1 hc, Ext.refl _⟩)
        obtain ⟨b32_, o32_, _, rfl, hc32_, ⟨r32_1, r32_3, r32_5, rfl, h32_2, h32_4, h32_6⟩⟩ := h32_ hg1
        refine (does_loadAgg (cs := [(Fl r32_1), (Fl r32_3), (Fl r32_5)]) (ev rfl) Try.isAgg40 Try.sizeOf40 (Cells.sub hc32_ 1 3) rfl).mono ?_; rintro _ _ ⟨rfl, rfl⟩
        exact ⟨fun _ => ⟨[(Fl r32_1), (Fl r32_3), (Fl r32_5)], rfl, ⟨r32_1, r32_3, r32_5, rfl, (by first | assumption | rfl), (by first | assumption | rfl), (by first | assumption | rfl)⟩⟩, Ext.refl _⟩
      refine RW_d _ rfl (fun v => by dsimp only [List.set]; try rfl) (fun u hu hF => ?_) (fun v49 => ?_)
      · have h33_ : (!β3) = false → ∃ cs_1 : List Value, v48 = (.agg cs_1.toArray) ∧ RV3 w el1.place cs_1 := hF.1
        have h28_ : v43 = (Bo (!β3)) := hF.2.1
        clear hF
        obtain rfl := h28_
        refine doesG_g (b := (!β3)) rfl (yld rfl rfl) (fun hg1 => ?_) (fun hc => ⟨fun hg1 => absurd hg1 hc, Ext.refl _⟩)
        obtain ⟨_, rfl, ⟨r33_1, r33_3, r33_5, rfl, h33_2, h33_4, h33_6⟩⟩ := h33_ hg1
        refine (does_call (args := #[(.agg #[(Fl r33_1), (Fl r33_3), (Fl r33_5)])]) cal73 (evs rfl) (c_spec_l01VFinite [(Fl r33_1), (Fl r33_3), (Fl r33_5)] el1.place _ ⟨r33_1, r33_3, r33_5, rfl, (by assumption), (by assumption), (by assumption)⟩)).mono ?_; rintro v u' ⟨hx, hv⟩
        exact ⟨fun _ => hv.trans (by simp only [h33_2, h33_4, h33_6]), hx⟩
      refine RW_d _ rfl (fun v => by dsimp only [List.set]; try rfl) (fun u hu hF => ?_) (fun v50 => ?_)
      · have h34_ : (!β3) = false → v49 = (Bo (finV el1.place)) := hF.1
        have h28_ : v43 = (Bo (!β3)) := hF.2.1
        clear hF
        obtain rfl := h28_
        refine doesG_g (b := (!β3)) rfl (yld rfl rfl) (fun hg1 => ?_) (fun hc => ⟨fun hg1 => absurd hg1 hc, Ext.refl _⟩)
        obtain rfl := h34_ hg1
        refine (does_not (ev rfl)).mono ?_; rintro _ _ ⟨rfl, rfl⟩
        exact ⟨fun _ => rfl, Ext.refl _⟩
      refine RW_d _ rfl (fun v => by dsimp only [List.set]; try rfl) (fun u hu hF => ?_) (fun v51 => ?_)
      · have h28_ : v43 = (Bo (!β3)) := hF.1
        have h35_ : (!β3) = false → v50 = (Bo (!(finV el1.place))) := hF.2.1
        clear hF
        refine doesG_un rfl ?_
        skip
        obtain rfl := h28_
        refine (does_pick (b := (!β3)) (u := (Bo true)) (v := v50) (ev rfl) (ev rfl) (ev rfl)).mono ?_; rintro _ _ ⟨rfl, rfl⟩; refine ⟨?_, Ext.refl _⟩; rw [hβ4]; skip
        cases hbb : (!β3)
        all_goals first | (show _ = _; simp only [↓reduceIte, Bool.true_and, Bool.false_and, Bool.true_or, Bool.false_or, Bool.false_eq_true]; done) | (have e_ := h35_ hbb; subst e_; show _ = _; simp only [↓reduceIte, Bool.true_and, Bool.false_and, Bool.true_or, Bool.false_or, Bool.false_eq_true]; done) | rfl | (have e_ := h35_ hbb; subst e_; rfl) | (simp [hbb] at h35_ ⊢; first | done | rfl | (subst h35_; rfl) | simp_all) | (simp [hbb] at h35_ ⊢; done)
      refine RW_fin ?_; intro w52 E53 hP54
      obtain ⟨⟨⟨⟨⟨⟨⟨⟨⟨⟨⟨⟨⟨⟨⟨⟨⟨⟨-, -⟩, -⟩, -⟩, -⟩, -⟩, -⟩, -⟩, -⟩, -⟩, -⟩, -⟩, -⟩, -⟩, -⟩, -⟩, -⟩, -⟩, q55⟩ := hP54
      have X56 := Ext.gr X27 E53
      have q55 : v51 = (Bo β4) := q55
      obtain rfl := q55
      show wpList _ _ _ _ (fr [_, _, _, _, _, _, _, _, _, _, _, _, _, _, _, _, _, _, _, _, _, _, _, _, _, _, _, _, _, _, _, _, _, _, _, _, _, _, _, _, _, _]) _
      refine wpList_nil (hK33 _ _ ?_)
      refine wp_cond_split (t := β4) (ev rfl) (fun c57 => ?_) (fun c57 => ?_)
      · have c57' := c57
        (try simp only [hβ1, hβ2, hβ3, hβ4] at c57')
        (try simp only [icmp, Bool.and_eq_true, Bool.or_eq_true, Bool.and_eq_false_iff, Bool.or_eq_false_iff, Bool.not_eq_true', Bool.not_eq_false', decide_eq_true_eq, decide_eq_false_iff_not, beq_iff_eq, bne_iff_ne, beq_eq_false_iff_ne, bne_eq_false_iff_eq] at c57')
        have hkb : keyOk L_ks k = false := (key_spec hkt hel1).trans (by rcases c57' with h | h <;> simp [h])
        refine wp_seq_k fun K58 hK58 => ?_
        refine wp_region_lit ?_
        refine q_is rfl rfl (does_assign (u := (Bo false)) (ev rfl)) (by dsimp only [List.set]; try rfl) ?_
        refine wpList_nil (hK58 _ _ ?_)
        refine wp_ret ?_
        dsimp only [Exit.then, Exit.inBlock]
        refine ret_val (v := (Bo false)) (res_T rfl (slot rfl)) X56 ?_
        try simp only [hβ1, hβ2, hβ3, hβ4, hel1] at c17 c30 c57
        have x59 : (keysOk L_ks) = false := by first | exact keysOk_len (by omega) | exact keysOk_bad (by omega) hkb | (rw [keysOk_ok hkt (by omega)]; exact inI_iff.2 (by omega))
        exact (by first | with_reducible rfl | rw [x59] | rfl)
      have c57' := c57
      (try simp only [hβ1, hβ2, hβ3, hβ4] at c57')
      (try simp only [icmp, Bool.and_eq_true, Bool.or_eq_true, Bool.and_eq_false_iff, Bool.or_eq_false_iff, Bool.not_eq_true', Bool.not_eq_false', decide_eq_true_eq, decide_eq_false_iff_not, beq_iff_eq, bne_iff_ne, beq_eq_false_iff_ne, bne_eq_false_iff_eq] at c57')
      have hko : keyOk L_ks k = true := (key_spec hkt hel1).trans (by simp [c57'.1, c57'.2])
      refine wp_skip (hK32 _ _ ?_)
      refine wp_region_lit ?_
      refine q_is rfl rfl (does_move (u := (.slice p_ks L_ks.length q_ks)) (ev rfl)) (by dsimp only [List.set]; try rfl) ?_
      refine q_is rfl rfl (does_move (u := (Iv (k : Int))) (ev rfl)) (by dsimp only [List.set]; try rfl) ?_
      refine seqd rfl rfl (does_indexSl (R := RKeyT) (i := (k : Int)) (xs := L_ks) (e := el1) Try.underlying43 Try.sizeOf119 (ev rfl) (ev rfl) (Sl.ext hv_ks RKeyT.mono X56) (by omega) hel1) ?_; rintro _ w52 ⟨b60, o61, _, rfl, hc63, ⟨r64, r66, r68, rfl, h65, h67, h69⟩, rfl⟩
      show wpList _ _ _ _ (fr [_, _, _, _, _, _, _, _, _, _, _, _, _, _, _, _, _, _, _, _, _, _, _, _, _, _, _, _, _, _, _, _, _, _, _, _, _, _, _, _, _, _]) _
      refine q_is rfl rfl (does_fieldAddr (ev rfl) fa119_0) (by dsimp only [List.set]; try rfl) ?_
      refine q_is rfl rfl (does_load (u := (Iv el1.at_)) (ev rfl) Try.isAgg2 (Cells.at hc63 0 rfl)) (by dsimp only [List.set]; try rfl) ?_
      refine q_is rfl rfl (does_assign (u := (Iv el1.at_)) (ev rfl)) (by dsimp only [List.set]; try rfl) ?_
      refine wpList_nil (hK31 _ _ ?_)
      refine wp_region_lit ?_
      refine q_is rfl rfl (does_move (u := (Iv (k : Int))) (ev rfl)) (by dsimp only [List.set]; try rfl) ?_
      refine q_is rfl rfl (does_iarith (p := (k : Int)) (q := 1) (r := (k : Int) + 1) (ev rfl) (ev rfl) (.inl ⟨rfl, (in_i64 (by omega) (by omega)).symm⟩)) (by dsimp only [List.set]; try rfl) ?_
      refine q_is rfl rfl (does_assign (u := (Iv ((k : Int) + 1))) (ev rfl)) (by dsimp only [List.set]; try rfl) ?_
      refine wpList_nil ?_
      refine ⟨k + 1, ⟨fun t => (([(.slice p_ks L_ks.length q_ks), Ud, (u23 2), (Iv el1.at_), (Iv ((k : Int) + 1)), v4, v5, v6, v7, v8, v9, v10, (Bo (β1 || β2)), (Iv (k : Int)), (.slice p_ks L_ks.length q_ks), (Iv (L_ks.length : Int)), (Bo (icmp .lss (k : Int) (L_ks.length : Int))), (Iv (k : Int)), (Iv ((k : Int) + 1)), v34, v35, v36, v37, v38, v39, v40, v41, v42, v43, v44, v45, v46, v47, v48, v49, v50, (Bo β4), (.slice p_ks L_ks.length q_ks), (Iv (k : Int)), (Pt b60 o61), (Pt b60 o61), (Iv el1.at_)] : List Value)[t]?).getD undef, ?_, (Ext.gr E25 E53), ?_⟩, ?_⟩
      · first | rfl | (simp only [lastK_succ hel1, Int.natCast_add, Int.natCast_one]; rfl)
      · exact ⟨by omega, KeyTo.step hkt hko⟩
      · omega
    have c30' := c30
    (try simp only [hβ1, hβ2] at c30')
    (try simp only [icmp, Bool.and_eq_true, Bool.or_eq_true, Bool.and_eq_false_iff, Bool.or_eq_false_iff, Bool.not_eq_true', Bool.not_eq_false', decide_eq_true_eq, decide_eq_false_iff_not, beq_iff_eq, bne_iff_ne, beq_eq_false_iff_ne, bne_eq_false_iff_eq] at c30')
    refine wp_exit ?_
    refine hK21 _ _ ?_
    refine wp_seq_k fun K70 hK70 => ?_
    refine wp_region_lit ?_
    refine q_is rfl rfl (does_assign (u := (Bo true)) (ev rfl)) (by dsimp only [List.set]; try rfl) ?_
    refine wpList_nil (hK70 _ _ ?_)
    refine wp_ret ?_
    refine ret_val (v := (Bo true)) (res_T rfl (slot rfl)) X27 ?_
    try simp only [hβ1, hβ2] at c17 c30
    have x71 : (keysOk L_ks) = true := by first | exact keysOk_len (by omega) | exact keysOk_bad (by omega) hkb | (rw [keysOk_ok hkt (by omega)]; exact inI_iff.2 (by omega))
    exact (by first | with_reducible rfl | rw [x71] | rfl)

/- spec.l10Thing -/
theorem c_spec_l10Thing (t__b : Nat) (t__o : Nat) (t_ : List Value) (A_t_ : ThingT) (w : World) (hc_t_ : Cells w t__b t__o t_) (hv_t_ : RThingT w A_t_ t_) : Gives Try.prog 30 #[(Pt t__b t__o)] w (fun v w' => v = (Bo (thingOk A_t_))) := by
  obtain ⟨y2, y4, rfl, h3, h5, hb1⟩ := hv_t_
  have hs8 := h3; have hs8l := Sl.len h3; obtain ⟨p6, q7, rfl⟩ := Sl.shape h3
  have hs11 := h5; have hs11l := Sl.len h5; obtain ⟨p9, q10, rfl⟩ := Sl.shape h5
  refine enter [(Pt t__b t__o), Ud, Ud, Ud, Ud, Ud, Ud, Ud, Ud, Ud, Ud, Ud, Ud, Ud, Ud, Ud, Ud, Ud, Ud, Ud, Ud] Try.func30 rfl Try.ntmps30 rfl ?_
  refine wp_seq_k fun K12 hK12 => ?_
  refine wp_region_lit ?_
  refine q_is (l' := [(Pt t__b t__o), Ud, (Bo false), Ud, Ud, Ud, Ud, Ud, Ud, Ud, Ud, Ud, Ud, Ud, Ud, Ud, Ud, Ud, Ud, Ud, Ud]) rfl rfl (does_assign (u := (Bo false)) (ev rfl)) rfl ?_
  refine wpList_nil (hK12 _ _ ?_)
  refine wp_seq_k fun K13 hK13 => ?_
  obtain ⟨β1, hβ1⟩ : ∃ b : Bool, b = ((isNm A_t_.name) && (isShape A_t_.shape)) := ⟨_, rfl⟩
  refine region_text (
    [Fact.pure [] (fun v => v = (Pt t__b t__o)),
    Fact.pure [3] (fun v => v = (Pt t__b t__o)),
    Fact.pure [4] (fun v => v = (Pt t__b t__o)),
    Fact.pure [5] (fun v => v = (.string A_t_.name)),
    Fact.pure [6] (fun v => v = (Bo (isNm A_t_.name))),
    Fact.pure [7] (fun v => v = (Bo (isNm A_t_.name))),
    Fact.pure [8] (fun v => (isNm A_t_.name) = true → v = (Pt t__b t__o)),
    Fact.pure [9, 8] (fun v => (isNm A_t_.name) = true → v = (Pt t__b t__o)),
    Fact.pure [10, 8] (fun v => (isNm A_t_.name) = true → v = (Pt t__b (t__o + 1))),
    Fact.pure [11, 8] (fun v => (isNm A_t_.name) = true → v = (Bo (isShape A_t_.shape))),
    Fact.pure [8, 12] (fun v => v = (Bo β1)),
    Fact.pure [13] (fun v => v = (Bo β1)),
    Fact.pure [14] (fun v => β1 = true → v = (Pt t__b t__o)),
    Fact.pure [15, 14] (fun v => β1 = true → v = (Pt t__b t__o)),
    Fact.pure [16, 14] (fun v => β1 = true → v = (Pt t__b (t__o + 2))),
    Fact.pure [17, 14] (fun v => β1 = true → v = (.slice p9 A_t_.keys.length q10)),
    Fact.pure [18, 14] (fun v => β1 = true → v = (Bo (keysOk A_t_.keys))),
    Fact.pure [14, 19] (fun v => v = (Bo (β1 && (keysOk A_t_.keys))))]) (by simp [Fact.pure, Fact.mem]) ?_
  refine RW_d (fun v14 => [(Pt t__b t__o), Ud, (Bo false), v14, Ud, Ud, Ud, Ud, Ud, Ud, Ud, Ud, Ud, Ud, Ud, Ud, Ud, Ud, Ud, Ud, Ud]) rfl (fun _ => rfl) (fun u hu hF => ?_) (fun v14 => ?_)
  · clear hF
    refine doesG_un rfl ?_
    refine (does_move (u := (Pt t__b t__o)) (ev rfl)).mono ?_; rintro _ _ ⟨rfl, rfl⟩
    exact ⟨rfl, Ext.refl _⟩
  refine RW_d (fun v15 => [(Pt t__b t__o), Ud, (Bo false), v14, v15, Ud, Ud, Ud, Ud, Ud, Ud, Ud, Ud, Ud, Ud, Ud, Ud, Ud, Ud, Ud, Ud]) rfl (fun _ => rfl) (fun u hu hF => ?_) (fun v15 => ?_)
  · have h3_ : v14 = (Pt t__b t__o) := hF.1
    clear hF
    refine doesG_un rfl ?_
    obtain rfl := h3_
    refine (does_nilCheck (ev rfl)).mono ?_; rintro _ _ ⟨rfl, rfl⟩
    exact ⟨rfl, Ext.refl _⟩
  refine RW_d (fun v16 => [(Pt t__b t__o), Ud, (Bo false), v14, v15, v16, Ud, Ud, Ud, Ud, Ud, Ud, Ud, Ud, Ud, Ud, Ud, Ud, Ud, Ud, Ud]) rfl (fun _ => rfl) (fun u hu hF => ?_) (fun v16 => ?_)
  · have h4_ : v15 = (Pt t__b t__o) := hF.1
    clear hF
    refine doesG_un rfl ?_
    obtain rfl := h4_
    refine (does_fieldAddr (ev rfl) fa45_0).mono ?_; rintro _ _ ⟨rfl, rfl⟩
    exact ⟨rfl, Ext.refl _⟩
  refine RW_d (fun v17 => [(Pt t__b t__o), Ud, (Bo false), v14, v15, v16, v17, Ud, Ud, Ud, Ud, Ud, Ud, Ud, Ud, Ud, Ud, Ud, Ud, Ud, Ud]) rfl (fun _ => rfl) (fun u hu hF => ?_) (fun v17 => ?_)
  · have h5_ : v16 = (Pt t__b t__o) := hF.1
    clear hF
    refine doesG_un rfl ?_
    obtain rfl := h5_
    refine (does_load (u := (.string A_t_.name)) (ev rfl) Try.isAgg9 (Cells.at (hc_t_.ext hu) 0 rfl)).mono ?_; rintro _ _ ⟨rfl, rfl⟩
    exact ⟨rfl, Ext.refl _⟩
  refine RW_d (fun v18 => [(Pt t__b t__o), Ud, (Bo false), v14, v15, v16, v17, v18, Ud, Ud, Ud, Ud, Ud, Ud, Ud, Ud, Ud, Ud, Ud, Ud, Ud]) rfl (fun _ => rfl) (fun u hu hF => ?_) (fun v18 => ?_)
  · have h6_ : v17 = (.string A_t_.name) := hF.1
    clear hF
    refine doesG_un rfl ?_
    obtain rfl := h6_
    refine (does_call (args := #[(.string A_t_.name)]) cal64 (evs rfl) (c_spec_IsName A_t_.name _ (by assumption))).mono ?_; rintro v u' ⟨hx, hv⟩
    exact ⟨hv, hx⟩
  refine RW_d (fun v19 => [(Pt t__b t__o), Ud, (Bo false), v14, v15, v16, v17, v18, v19, Ud, Ud, Ud, Ud, Ud, Ud, Ud, Ud, Ud, Ud, Ud, Ud]) rfl (fun _ => rfl) (fun u hu hF => ?_) (fun v19 => ?_)
  · have h7_ : v18 = (Bo (isNm A_t_.name)) := hF.1
    clear hF
    refine doesG_un rfl ?_
    obtain rfl := h7_
    refine (does_move (u := (Bo (isNm A_t_.name))) (ev rfl)).mono ?_; rintro _ _ ⟨rfl, rfl⟩
    exact ⟨rfl, Ext.refl _⟩
  refine RW_d (fun v20 => [(Pt t__b t__o), Ud, (Bo false), v14, v15, v16, v17, v18, v19, v20, Ud, Ud, Ud, Ud, Ud, Ud, Ud, Ud, Ud, Ud, Ud]) rfl (fun _ => rfl) (fun u hu hF => ?_) (fun v20 => ?_)
  · have h8_ : v19 = (Bo (isNm A_t_.name)) := hF.1
    clear hF
    obtain rfl := h8_
    refine doesG_g (b := (isNm A_t_.name)) rfl (yld rfl rfl) (fun hg1 => ?_) (fun hc => ⟨fun hg1 => absurd hg1 hc, Ext.refl _⟩)
    refine (does_move (u := (Pt t__b t__o)) (ev rfl)).mono ?_; rintro _ _ ⟨rfl, rfl⟩
    exact ⟨fun _ => rfl, Ext.refl _⟩
  refine RW_d (fun v21 => [(Pt t__b t__o), Ud, (Bo false), v14, v15, v16, v17, v18, v19, v20, v21, Ud, Ud, Ud, Ud, Ud, Ud, Ud, Ud, Ud, Ud]) rfl (fun _ => rfl) (fun u hu hF => ?_) (fun v21 => ?_)
  · have h9_ : (isNm A_t_.name) = true → v20 = (Pt t__b t__o) := hF.1
    have h8_ : v19 = (Bo (isNm A_t_.name)) := hF.2.1
    clear hF
    obtain rfl := h8_
    refine doesG_g (b := (isNm A_t_.name)) rfl (yld rfl rfl) (fun hg1 => ?_) (fun hc => ⟨fun hg1 => absurd hg1 hc, Ext.refl _⟩)
    obtain rfl := h9_ hg1
    refine (does_nilCheck (ev rfl)).mono ?_; rintro _ _ ⟨rfl, rfl⟩
    exact ⟨fun _ => rfl, Ext.refl _⟩
  refine RW_d (fun v22 => [(Pt t__b t__o), Ud, (Bo false), v14, v15, v16, v17, v18, v19, v20, v21, v22, Ud, Ud, Ud, Ud, Ud, Ud, Ud, Ud, Ud]) rfl (fun _ => rfl) (fun u hu hF => ?_) (fun v22 => ?_)
  · have h10_ : (isNm A_t_.name) = true → v21 = (Pt t__b t__o) := hF.1
    have h8_ : v19 = (Bo (isNm A_t_.name)) := hF.2.1
    clear hF
    obtain rfl := h8_
    refine doesG_g (b := (isNm A_t_.name)) rfl (yld rfl rfl) (fun hg1 => ?_) (fun hc => ⟨fun hg1 => absurd hg1 hc, Ext.refl _⟩)
    obtain rfl := h10_ hg1
    refine (does_fieldAddr (ev rfl) fa45_1).mono ?_; rintro _ _ ⟨rfl, rfl⟩
    exact ⟨fun _ => rfl, Ext.refl _⟩
  refine RW_d (fun v23 => [(Pt t__b t__o), Ud, (Bo false), v14, v15, v16, v17, v18, v19, v20, v21, v22, v23, Ud, Ud, Ud, Ud, Ud, Ud, Ud, Ud]) rfl (fun _ => rfl) (fun u hu hF => ?_) (fun v23 => ?_)
  · have h11_ : (isNm A_t_.name) = true → v22 = (Pt t__b (t__o + 1)) := hF.1
    have h8_ : v19 = (Bo (isNm A_t_.name)) := hF.2.1
    clear hF
    obtain rfl := h8_
    refine doesG_g (b := (isNm A_t_.name)) rfl (yld rfl rfl) (fun hg1 => ?_) (fun hc => ⟨fun hg1 => absurd hg1 hc, Ext.refl _⟩)
    obtain rfl := h11_ hg1
    refine (does_call (args := #[(Pt t__b (t__o + 1))]) cal23 (evs rfl) (c_spec_l02Is t__b (t__o + 1) [(.slice p6 A_t_.shape.nodes.length q7)] A_t_.shape _ (Cells.sub (hc_t_.ext hu) 1 1) ⟨(.slice p6 A_t_.shape.nodes.length q7), rfl, (Sl.ext hs8 RNodeT.mono hu)⟩)).mono ?_; rintro v u' ⟨hx, hv⟩
    exact ⟨fun _ => hv, hx⟩
  refine RW_d (fun v24 => [(Pt t__b t__o), Ud, (Bo false), v14, v15, v16, v17, v18, v19, v20, v21, v22, v23, v24, Ud, Ud, Ud, Ud, Ud, Ud, Ud]) rfl (fun _ => rfl) (fun u hu hF => ?_) (fun v24 => ?_)
  · have h8_ : v19 = (Bo (isNm A_t_.name)) := hF.1
    have h12_ : (isNm A_t_.name) = true → v23 = (Bo (isShape A_t_.shape)) := hF.2.1
    clear hF
    refine doesG_un rfl ?_
    skip
    obtain rfl := h8_
    refine (does_pick (b := (isNm A_t_.name)) (u := v23) (v := (Bo false)) (ev rfl) (ev rfl) (ev rfl)).mono ?_; rintro _ _ ⟨rfl, rfl⟩; refine ⟨?_, Ext.refl _⟩; rw [hβ1]; skip
    cases hbb : (isNm A_t_.name)
    all_goals first | (show _ = _; simp only [↓reduceIte, Bool.true_and, Bool.false_and, Bool.true_or, Bool.false_or, Bool.false_eq_true]; done) | (have e_ := h12_ hbb; subst e_; show _ = _; simp only [↓reduceIte, Bool.true_and, Bool.false_and, Bool.true_or, Bool.false_or, Bool.false_eq_true]; done) | rfl | (have e_ := h12_ hbb; subst e_; rfl) | (simp [hbb] at h12_ ⊢; first | done | rfl | (subst h12_; rfl) | simp_all) | (simp [hbb] at h12_ ⊢; done)
  refine RW_d (fun v25 => [(Pt t__b t__o), Ud, (Bo false), v14, v15, v16, v17, v18, v19, v20, v21, v22, v23, v24, v25, Ud, Ud, Ud, Ud, Ud, Ud]) rfl (fun _ => rfl) (fun u hu hF => ?_) (fun v25 => ?_)
  · have h13_ : v24 = (Bo β1) := hF.1
    clear hF
    refine doesG_un rfl ?_
    obtain rfl := h13_
    refine (does_move (u := (Bo β1)) (ev rfl)).mono ?_; rintro _ _ ⟨rfl, rfl⟩
    exact ⟨rfl, Ext.refl _⟩
  refine RW_d (fun v26 => [(Pt t__b t__o), Ud, (Bo false), v14, v15, v16, v17, v18, v19, v20, v21, v22, v23, v24, v25, v26, Ud, Ud, Ud, Ud, Ud]) rfl (fun _ => rfl) (fun u hu hF => ?_) (fun v26 => ?_)
  · have h14_ : v25 = (Bo β1) := hF.1
    clear hF
    obtain rfl := h14_
    refine doesG_g (b := β1) rfl (yld rfl rfl) (fun hg1 => ?_) (fun hc => ⟨fun hg1 => absurd hg1 hc, Ext.refl _⟩)
    refine (does_move (u := (Pt t__b t__o)) (ev rfl)).mono ?_; rintro _ _ ⟨rfl, rfl⟩
    exact ⟨fun _ => rfl, Ext.refl _⟩
  refine RW_d (fun v27 => [(Pt t__b t__o), Ud, (Bo false), v14, v15, v16, v17, v18, v19, v20, v21, v22, v23, v24, v25, v26, v27, Ud, Ud, Ud, Ud]) rfl (fun _ => rfl) (fun u hu hF => ?_) (fun v27 => ?_)
  · have h15_ : β1 = true → v26 = (Pt t__b t__o) := hF.1
    have h14_ : v25 = (Bo β1) := hF.2.1
    clear hF
    obtain rfl := h14_
    refine doesG_g (b := β1) rfl (yld rfl rfl) (fun hg1 => ?_) (fun hc => ⟨fun hg1 => absurd hg1 hc, Ext.refl _⟩)
    obtain rfl := h15_ hg1
    refine (does_nilCheck (ev rfl)).mono ?_; rintro _ _ ⟨rfl, rfl⟩
    exact ⟨fun _ => rfl, Ext.refl _⟩
  refine RW_d (fun v28 => [(Pt t__b t__o), Ud, (Bo false), v14, v15, v16, v17, v18, v19, v20, v21, v22, v23, v24, v25, v26, v27, v28, Ud, Ud, Ud]) rfl (fun _ => rfl) (fun u hu hF => ?_) (fun v28 => ?_)
  · have h16_ : β1 = true → v27 = (Pt t__b t__o) := hF.1
    have h14_ : v25 = (Bo β1) := hF.2.1
    clear hF
    obtain rfl := h14_
    refine doesG_g (b := β1) rfl (yld rfl rfl) (fun hg1 => ?_) (fun hc => ⟨fun hg1 => absurd hg1 hc, Ext.refl _⟩)
    obtain rfl := h16_ hg1
    refine (does_fieldAddr (ev rfl) fa45_2).mono ?_; rintro _ _ ⟨rfl, rfl⟩
    exact ⟨fun _ => rfl, Ext.refl _⟩
  refine RW_d (fun v29 => [(Pt t__b t__o), Ud, (Bo false), v14, v15, v16, v17, v18, v19, v20, v21, v22, v23, v24, v25, v26, v27, v28, v29, Ud, Ud]) rfl (fun _ => rfl) (fun u hu hF => ?_) (fun v29 => ?_)
  · have h17_ : β1 = true → v28 = (Pt t__b (t__o + 2)) := hF.1
    have h14_ : v25 = (Bo β1) := hF.2.1
    clear hF
    obtain rfl := h14_
    refine doesG_g (b := β1) rfl (yld rfl rfl) (fun hg1 => ?_) (fun hc => ⟨fun hg1 => absurd hg1 hc, Ext.refl _⟩)
    obtain rfl := h17_ hg1
    refine (does_load (u := (.slice p9 A_t_.keys.length q10)) (ev rfl) Try.isAgg43 (Cells.at (hc_t_.ext hu) 2 rfl)).mono ?_; rintro _ _ ⟨rfl, rfl⟩
    exact ⟨fun _ => rfl, Ext.refl _⟩
  refine RW_d (fun v30 => [(Pt t__b t__o), Ud, (Bo false), v14, v15, v16, v17, v18, v19, v20, v21, v22, v23, v24, v25, v26, v27, v28, v29, v30, Ud]) rfl (fun _ => rfl) (fun u hu hF => ?_) (fun v30 => ?_)
  · have h18_ : β1 = true → v29 = (.slice p9 A_t_.keys.length q10) := hF.1
    have h14_ : v25 = (Bo β1) := hF.2.1
    clear hF
    obtain rfl := h14_
    refine doesG_g (b := β1) rfl (yld rfl rfl) (fun hg1 => ?_) (fun hc => ⟨fun hg1 => absurd hg1 hc, Ext.refl _⟩)
    obtain rfl := h18_ hg1
    refine (does_call (args := #[(.slice p9 A_t_.keys.length q10)]) cal65 (evs rfl) (c_spec_l10Keys (.slice p9 A_t_.keys.length q10) A_t_.keys _ (Sl.ext hs11 RKeyT.mono hu))).mono ?_; rintro v u' ⟨hx, hv⟩
    exact ⟨fun _ => hv, hx⟩
  refine RW_d (fun v31 => [(Pt t__b t__o), Ud, (Bo false), v14, v15, v16, v17, v18, v19, v20, v21, v22, v23, v24, v25, v26, v27, v28, v29, v30, v31]) rfl (fun _ => rfl) (fun u hu hF => ?_) (fun v31 => ?_)
  · have h14_ : v25 = (Bo β1) := hF.1
    have h19_ : β1 = true → v30 = (Bo (keysOk A_t_.keys)) := hF.2.1
    clear hF
    refine doesG_un rfl ?_
    skip
    obtain rfl := h14_
    refine (does_pick (b := β1) (u := v30) (v := (Bo false)) (ev rfl) (ev rfl) (ev rfl)).mono ?_; rintro _ _ ⟨rfl, rfl⟩; refine ⟨?_, Ext.refl _⟩; skip
    cases hbb : β1
    all_goals first | (show _ = _; simp only [↓reduceIte, Bool.true_and, Bool.false_and, Bool.true_or, Bool.false_or, Bool.false_eq_true]; done) | (have e_ := h19_ hbb; subst e_; show _ = _; simp only [↓reduceIte, Bool.true_and, Bool.false_and, Bool.true_or, Bool.false_or, Bool.false_eq_true]; done) | rfl | (have e_ := h19_ hbb; subst e_; rfl) | (simp [hbb] at h19_ ⊢; first | done | rfl | (subst h19_; rfl) | simp_all) | (simp [hbb] at h19_ ⊢; done)
  refine RW_fin ?_; intro w32 E33 hP34
  obtain ⟨⟨⟨⟨⟨⟨⟨⟨⟨⟨⟨⟨⟨⟨⟨⟨⟨⟨-, -⟩, -⟩, -⟩, -⟩, -⟩, -⟩, -⟩, -⟩, -⟩, -⟩, -⟩, -⟩, -⟩, -⟩, -⟩, -⟩, -⟩, q35⟩ := hP34
  have X36 := Ext.gr (Ext.refl w) E33
  have q35 : v31 = (Bo (β1 && (keysOk A_t_.keys))) := q35
  obtain rfl := q35
  show wpList _ _ _ _ (fr [(Pt t__b t__o), Ud, (Bo false), v14, v15, v16, v17, v18, v19, v20, v21, v22, v23, v24, v25, v26, v27, v28, v29, v30, (Bo (β1 && (keysOk A_t_.keys)))]) _
  refine q_is (l' := [(Pt t__b t__o), Ud, (Bo (β1 && (keysOk A_t_.keys))), v14, v15, v16, v17, v18, v19, v20, v21, v22, v23, v24, v25, v26, v27, v28, v29, v30, (Bo (β1 && (keysOk A_t_.keys)))]) rfl rfl (does_assign (u := (Bo (β1 && (keysOk A_t_.keys)))) (ev rfl)) rfl ?_
  refine wpList_nil (hK13 _ _ ?_)
  refine wp_ret ?_
  refine ret_val (v := (Bo (β1 && (keysOk A_t_.keys)))) (res_T rfl (slot rfl)) X36 ?_
  have x37 : (thingOk A_t_) = (β1 && (keysOk A_t_.keys)) := by first | with_reducible rfl | (simp only [thingOk, hβ1]; done) | (simp [thingOk, hβ1]; done) | rfl
  exact (by first | with_reducible rfl | rw [x37] | rfl)

/- spec.l10Time -/
theorem c_spec_l10Time (n_ : Int) (w : World) : Gives Try.prog 31 #[(Iv n_)] w (fun v w' => v = (Bo (inI n_ 0 10000))) := by
  refine enter [(Iv n_), Ud, Ud, Ud, Ud] Try.func31 rfl Try.ntmps31 rfl ?_
  refine wp_seq_k fun K1 hK1 => ?_
  refine wp_region_lit ?_
  refine q_is (l' := [(Iv n_), Ud, (Bo false), Ud, Ud]) rfl rfl (does_assign (u := (Bo false)) (ev rfl)) rfl ?_
  refine wpList_nil (hK1 _ _ ?_)
  refine wp_seq_k fun K2 hK2 => ?_
  refine wp_region_lit ?_
  refine q_is (l' := [(Iv n_), Ud, (Bo false), (Iv n_), Ud]) rfl rfl (does_move (u := (Iv n_)) (ev rfl)) rfl ?_
  refine seqd rfl rfl (does_call (args := #[(Iv n_), (Iv 0), (Iv 10000)]) cal66 (evs rfl) (c_spec_l00In n_ 0 10000 _)) ?_; rintro _ w4 ⟨E3, rfl⟩
  have X5 := Ext.gr (Ext.refl w) E3
  show wpList _ _ _ _ (fr [(Iv n_), Ud, (Bo false), (Iv n_), (Bo (inI n_ 0 10000))]) _
  refine q_is (l' := [(Iv n_), Ud, (Bo (inI n_ 0 10000)), (Iv n_), (Bo (inI n_ 0 10000))]) rfl rfl (does_assign (u := (Bo (inI n_ 0 10000))) (ev rfl)) rfl ?_
  refine wpList_nil (hK2 _ _ ?_)
  refine wp_ret ?_
  refine ret_val (v := (Bo (inI n_ 0 10000))) (res_T rfl (slot rfl)) X5 ?_
  exact rfl

/- spec.l01Add -/
theorem c_spec_l01Add (a : List Value) (A_a : V3) (b : List Value) (A_b : V3) (w : World) (hv_a : RV3 w A_a a) (hv_b : RV3 w A_b b) : Gives Try.prog 105 #[(.agg a.toArray), (.agg b.toArray)] w (fun v w' => ∃ cs_1 : List Value, v = (.agg cs_1.toArray) ∧ RV3 w (vadd A_a A_b) cs_1) := by
  obtain ⟨r1, r3, r5, rfl, h2, h4, h6⟩ := hv_a
  obtain ⟨r7, r9, r11, rfl, h8, h10, h12⟩ := hv_b
  refine enter [(.agg #[(Fl r1), (Fl r3), (Fl r5)]), (.agg #[(Fl r7), (Fl r9), (Fl r11)]), Ud, Ud, Ud, Ud, Ud, Ud, Ud, Ud, Ud, Ud, Ud, Ud, Ud, Ud, Ud, Ud, Ud, Ud, Ud] Try.func105 rfl Try.ntmps105 rfl ?_
  refine wp_seq_k fun K13 hK13 => ?_
  refine wp_region_lit ?_
  refine seqd rfl rfl (does_box (u := (.agg #[(Fl r1), (Fl r3), (Fl r5)])) (ev rfl)) ?_; rintro _ w18 ⟨b14, rfl, hb15, hB16, E17⟩
  have g19 : w.heap.size ≤ b14 := Nat.le_trans (Below.size (Ext.refl w)) hb15
  change Blk _ _ [(Fl r1), (Fl r3), (Fl r5)] at hB16
  have X20 := Ext.gr (Ext.refl w) E17
  show wpList _ _ _ _ (fr [(.agg #[(Fl r1), (Fl r3), (Fl r5)]), (.agg #[(Fl r7), (Fl r9), (Fl r11)]), (Pt b14 0), Ud, Ud, Ud, Ud, Ud, Ud, Ud, Ud, Ud, Ud, Ud, Ud, Ud, Ud, Ud, Ud, Ud, Ud]) _
  refine seqd rfl rfl (does_box (u := (.agg #[(Fl r7), (Fl r9), (Fl r11)])) (ev rfl)) ?_; rintro _ w25 ⟨b21, rfl, hb22, hB23, E24⟩
  have n26 : b14 < b21 := Nat.lt_of_lt_of_le (Blk.lt hB16) hb22
  have g27 : w.heap.size ≤ b21 := Nat.le_trans (Below.size X20) hb22
  change Blk _ _ [(Fl r7), (Fl r9), (Fl r11)] at hB23
  have X28 := Ext.gr X20 E24
  show wpList _ _ _ _ (fr [(.agg #[(Fl r1), (Fl r3), (Fl r5)]), (.agg #[(Fl r7), (Fl r9), (Fl r11)]), (Pt b14 0), (Pt b21 0), Ud, Ud, Ud, Ud, Ud, Ud, Ud, Ud, Ud, Ud, Ud, Ud, Ud, Ud, Ud, Ud, Ud]) _
  refine seqd rfl rfl (does_alloc z40) ?_; rintro _ w33 ⟨b29, rfl, hb30, hB31, E32⟩
  have n34 : b14 < b29 := Nat.lt_of_lt_of_le (Blk.lt (hB16.ext E24)) hb30
  have n35 : b21 < b29 := Nat.lt_of_lt_of_le (Blk.lt hB23) hb30
  have g36 : w.heap.size ≤ b29 := Nat.le_trans (Below.size X28) hb30
  change Blk _ _ [(Fl 0), (Fl 0), (Fl 0)] at hB31
  have X37 := Ext.gr X28 E32
  show wpList _ _ _ _ (fr [(.agg #[(Fl r1), (Fl r3), (Fl r5)]), (.agg #[(Fl r7), (Fl r9), (Fl r11)]), (Pt b14 0), (Pt b21 0), (Pt b29 0), Ud, Ud, Ud, Ud, Ud, Ud, Ud, Ud, Ud, Ud, Ud, Ud, Ud, Ud, Ud, Ud]) _
  refine wpList_nil (hK13 _ _ ?_)
  refine wp_seq_k fun K38 hK38 => ?_
  refine wp_region_lit ?_
  refine q_is (l' := [(.agg #[(Fl r1), (Fl r3), (Fl r5)]), (.agg #[(Fl r7), (Fl r9), (Fl r11)]), (Pt b14 0), (Pt b21 0), (Pt b29 0), (Pt b14 0), Ud, Ud, Ud, Ud, Ud, Ud, Ud, Ud, Ud, Ud, Ud, Ud, Ud, Ud, Ud]) rfl rfl (does_fieldAddr (ev rfl) fa40_0) rfl ?_
  refine q_is (l' := [(.agg #[(Fl r1), (Fl r3), (Fl r5)]), (.agg #[(Fl r7), (Fl r9), (Fl r11)]), (Pt b14 0), (Pt b21 0), (Pt b29 0), (Pt b14 0), (Fl r1), Ud, Ud, Ud, Ud, Ud, Ud, Ud, Ud, Ud, Ud, Ud, Ud, Ud, Ud]) rfl rfl (does_load (u := (Fl r1)) (ev rfl) Try.isAgg38 (Cells.at (Blk.cells ((hB16.ext E24).ext E32)) 0 rfl)) rfl ?_
  refine q_is (l' := [(.agg #[(Fl r1), (Fl r3), (Fl r5)]), (.agg #[(Fl r7), (Fl r9), (Fl r11)]), (Pt b14 0), (Pt b21 0), (Pt b29 0), (Pt b14 0), (Fl r1), (Pt b21 0), Ud, Ud, Ud, Ud, Ud, Ud, Ud, Ud, Ud, Ud, Ud, Ud, Ud]) rfl rfl (does_fieldAddr (ev rfl) fa40_0) rfl ?_
  refine q_is (l' := [(.agg #[(Fl r1), (Fl r3), (Fl r5)]), (.agg #[(Fl r7), (Fl r9), (Fl r11)]), (Pt b14 0), (Pt b21 0), (Pt b29 0), (Pt b14 0), (Fl r1), (Pt b21 0), (Fl r7), Ud, Ud, Ud, Ud, Ud, Ud, Ud, Ud, Ud, Ud, Ud, Ud]) rfl rfl (does_load (u := (Fl r7)) (ev rfl) Try.isAgg38 (Cells.at (Blk.cells (hB23.ext E32)) 0 rfl)) rfl ?_
  refine seqd rfl rfl (does_float (.inl rfl) (ev rfl) (ev rfl)) ?_; rintro _ w42 ⟨r39, rfl, h40, E41⟩
  have X43 := Ext.gr X37 E41
  show wpList _ _ _ _ (fr [(.agg #[(Fl r1), (Fl r3), (Fl r5)]), (.agg #[(Fl r7), (Fl r9), (Fl r11)]), (Pt b14 0), (Pt b21 0), (Pt b29 0), (Pt b14 0), (Fl r1), (Pt b21 0), (Fl r7), (Fl r39), Ud, Ud, Ud, Ud, Ud, Ud, Ud, Ud, Ud, Ud, Ud]) _
  refine q_is (l' := [(.agg #[(Fl r1), (Fl r3), (Fl r5)]), (.agg #[(Fl r7), (Fl r9), (Fl r11)]), (Pt b14 0), (Pt b21 0), (Pt b29 0), (Pt b14 0), (Fl r1), (Pt b21 0), (Fl r7), (Fl r39), (Pt b14 1), Ud, Ud, Ud, Ud, Ud, Ud, Ud, Ud, Ud, Ud]) rfl rfl (does_fieldAddr (ev rfl) fa40_1) rfl ?_
  refine q_is (l' := [(.agg #[(Fl r1), (Fl r3), (Fl r5)]), (.agg #[(Fl r7), (Fl r9), (Fl r11)]), (Pt b14 0), (Pt b21 0), (Pt b29 0), (Pt b14 0), (Fl r1), (Pt b21 0), (Fl r7), (Fl r39), (Pt b14 1), (Fl r3), Ud, Ud, Ud, Ud, Ud, Ud, Ud, Ud, Ud]) rfl rfl (does_load (u := (Fl r3)) (ev rfl) Try.isAgg38 (Cells.at (Blk.cells (((hB16.ext E24).ext E32).ext E41)) 1 rfl)) rfl ?_
  refine q_is (l' := [(.agg #[(Fl r1), (Fl r3), (Fl r5)]), (.agg #[(Fl r7), (Fl r9), (Fl r11)]), (Pt b14 0), (Pt b21 0), (Pt b29 0), (Pt b14 0), (Fl r1), (Pt b21 0), (Fl r7), (Fl r39), (Pt b14 1), (Fl r3), (Pt b21 1), Ud, Ud, Ud, Ud, Ud, Ud, Ud, Ud]) rfl rfl (does_fieldAddr (ev rfl) fa40_1) rfl ?_
  refine q_is (l' := [(.agg #[(Fl r1), (Fl r3), (Fl r5)]), (.agg #[(Fl r7), (Fl r9), (Fl r11)]), (Pt b14 0), (Pt b21 0), (Pt b29 0), (Pt b14 0), (Fl r1), (Pt b21 0), (Fl r7), (Fl r39), (Pt b14 1), (Fl r3), (Pt b21 1), (Fl r9), Ud, Ud, Ud, Ud, Ud, Ud, Ud]) rfl rfl (does_load (u := (Fl r9)) (ev rfl) Try.isAgg38 (Cells.at (Blk.cells ((hB23.ext E32).ext E41)) 1 rfl)) rfl ?_
  refine seqd rfl rfl (does_float (.inl rfl) (ev rfl) (ev rfl)) ?_; rintro _ w47 ⟨r44, rfl, h45, E46⟩
  have X48 := Ext.gr X43 E46
  show wpList _ _ _ _ (fr [(.agg #[(Fl r1), (Fl r3), (Fl r5)]), (.agg #[(Fl r7), (Fl r9), (Fl r11)]), (Pt b14 0), (Pt b21 0), (Pt b29 0), (Pt b14 0), (Fl r1), (Pt b21 0), (Fl r7), (Fl r39), (Pt b14 1), (Fl r3), (Pt b21 1), (Fl r9), (Fl r44), Ud, Ud, Ud, Ud, Ud, Ud]) _
  refine q_is (l' := [(.agg #[(Fl r1), (Fl r3), (Fl r5)]), (.agg #[(Fl r7), (Fl r9), (Fl r11)]), (Pt b14 0), (Pt b21 0), (Pt b29 0), (Pt b14 0), (Fl r1), (Pt b21 0), (Fl r7), (Fl r39), (Pt b14 1), (Fl r3), (Pt b21 1), (Fl r9), (Fl r44), (Pt b14 2), Ud, Ud, Ud, Ud, Ud]) rfl rfl (does_fieldAddr (ev rfl) fa40_2) rfl ?_
  refine q_is (l' := [(.agg #[(Fl r1), (Fl r3), (Fl r5)]), (.agg #[(Fl r7), (Fl r9), (Fl r11)]), (Pt b14 0), (Pt b21 0), (Pt b29 0), (Pt b14 0), (Fl r1), (Pt b21 0), (Fl r7), (Fl r39), (Pt b14 1), (Fl r3), (Pt b21 1), (Fl r9), (Fl r44), (Pt b14 2), (Fl r5), Ud, Ud, Ud, Ud]) rfl rfl (does_load (u := (Fl r5)) (ev rfl) Try.isAgg38 (Cells.at (Blk.cells ((((hB16.ext E24).ext E32).ext E41).ext E46)) 2 rfl)) rfl ?_
  refine q_is (l' := [(.agg #[(Fl r1), (Fl r3), (Fl r5)]), (.agg #[(Fl r7), (Fl r9), (Fl r11)]), (Pt b14 0), (Pt b21 0), (Pt b29 0), (Pt b14 0), (Fl r1), (Pt b21 0), (Fl r7), (Fl r39), (Pt b14 1), (Fl r3), (Pt b21 1), (Fl r9), (Fl r44), (Pt b14 2), (Fl r5), (Pt b21 2), Ud, Ud, Ud]) rfl rfl (does_fieldAddr (ev rfl) fa40_2) rfl ?_
  refine q_is (l' := [(.agg #[(Fl r1), (Fl r3), (Fl r5)]), (.agg #[(Fl r7), (Fl r9), (Fl r11)]), (Pt b14 0), (Pt b21 0), (Pt b29 0), (Pt b14 0), (Fl r1), (Pt b21 0), (Fl r7), (Fl r39), (Pt b14 1), (Fl r3), (Pt b21 1), (Fl r9), (Fl r44), (Pt b14 2), (Fl r5), (Pt b21 2), (Fl r11), Ud, Ud]) rfl rfl (does_load (u := (Fl r11)) (ev rfl) Try.isAgg38 (Cells.at (Blk.cells (((hB23.ext E32).ext E41).ext E46)) 2 rfl)) rfl ?_
  refine seqd rfl rfl (does_float (.inl rfl) (ev rfl) (ev rfl)) ?_; rintro _ w52 ⟨r49, rfl, h50, E51⟩
  have X53 := Ext.gr X48 E51
  show wpList _ _ _ _ (fr [(.agg #[(Fl r1), (Fl r3), (Fl r5)]), (.agg #[(Fl r7), (Fl r9), (Fl r11)]), (Pt b14 0), (Pt b21 0), (Pt b29 0), (Pt b14 0), (Fl r1), (Pt b21 0), (Fl r7), (Fl r39), (Pt b14 1), (Fl r3), (Pt b21 1), (Fl r9), (Fl r44), (Pt b14 2), (Fl r5), (Pt b21 2), (Fl r11), (Fl r49), Ud]) _
  refine q_is (l' := [(.agg #[(Fl r1), (Fl r3), (Fl r5)]), (.agg #[(Fl r7), (Fl r9), (Fl r11)]), (Pt b14 0), (Pt b21 0), (Pt b29 0), (Pt b14 0), (Fl r1), (Pt b21 0), (Fl r7), (Fl r39), (Pt b14 1), (Fl r3), (Pt b21 1), (Fl r9), (Fl r44), (Pt b14 2), (Fl r5), (Pt b21 2), (Fl r11), (Fl r49), (.agg #[(Fl r39), (Fl r44), (Fl r49)])]) rfl rfl (does_build (parts' := [(0, (Fl r39)), (1, (Fl r44)), (2, (Fl r49))]) (cells := #[(Fl r39), (Fl r44), (Fl r49)]) (evp rfl) (by kernel_rfl)) rfl ?_
  refine seqn rfl rfl (does_store (n := 3) (cs := [(Fl 0), (Fl 0), (Fl 0)]) (u := (.agg #[(Fl r39), (Fl r44), (Fl r49)])) (ev rfl) (ev rfl) Try.sizeOf40 rfl (((hB31.ext E41).ext E46).ext E51) (Nat.le_of_ble_eq_true rfl) rfl) ?_; rintro _ w56 ⟨rfl, W54, hB55⟩
  change Blk _ _ [(Fl r39), (Fl r44), (Fl r49)] at hB55
  have X57 := Below.wr X53 W54 g36
  refine wpList_nil (hK38 _ _ ?_)
  refine wp_ret ?_
  refine ret_val (v := (.agg #[(Fl r39), (Fl r44), (Fl r49)])) (res_C rfl (slot rfl) (run_loadAgg (cs := [(Fl r39), (Fl r44), (Fl r49)]) Try.isAgg40 Try.sizeOf40 (Blk.cells hB55) rfl)) X57 ?_
  have x58 : cf .f32 r39 = (vadd A_a A_b).x := by first | with_reducible rfl | (simp only [vadd, h2, h4, h6, h8, h10, h12, h40, h45, h50]; done) | (simp [vadd, h2, h4, h6, h8, h10, h12, h40, h45, h50]; done) | rfl
  have x59 : cf .f32 r44 = (vadd A_a A_b).y := by first | with_reducible rfl | (simp only [vadd, h2, h4, h6, h8, h10, h12, h40, h45, h50]; done) | (simp [vadd, h2, h4, h6, h8, h10, h12, h40, h45, h50]; done) | rfl
  have x60 : cf .f32 r49 = (vadd A_a A_b).z := by first | with_reducible rfl | (simp only [vadd, h2, h4, h6, h8, h10, h12, h40, h45, h50]; done) | (simp [vadd, h2, h4, h6, h8, h10, h12, h40, h45, h50]; done) | rfl
  exact ⟨[(Fl r39), (Fl r44), (Fl r49)], rfl, ⟨r39, r44, r49, rfl, x58, x59, x60⟩⟩

/- spec.l01Scale -/
theorem c_spec_l01Scale (a : List Value) (A_a : V3) (b : Nat) (w : World) (hv_a : RV3 w A_a a) : Gives Try.prog 106 #[(.agg a.toArray), (Fl b)] w (fun v w' => ∃ cs_1 : List Value, v = (.agg cs_1.toArray) ∧ RV3 w (vscale A_a (cf .f32 b)) cs_1) := by
  obtain ⟨r1, r3, r5, rfl, h2, h4, h6⟩ := hv_a
  refine enter [(.agg #[(Fl r1), (Fl r3), (Fl r5)]), (Fl b), Ud, Ud, Ud, Ud, Ud, Ud, Ud, Ud, Ud, Ud, Ud, Ud, Ud, Ud, Ud, Ud] Try.func106 rfl Try.ntmps106 rfl ?_
  refine wp_seq_k fun K7 hK7 => ?_
  refine wp_region_lit ?_
  refine seqd rfl rfl (does_box (u := (.agg #[(Fl r1), (Fl r3), (Fl r5)])) (ev rfl)) ?_; rintro _ w12 ⟨b8, rfl, hb9, hB10, E11⟩
  have g13 : w.heap.size ≤ b8 := Nat.le_trans (Below.size (Ext.refl w)) hb9
  change Blk _ _ [(Fl r1), (Fl r3), (Fl r5)] at hB10
  have X14 := Ext.gr (Ext.refl w) E11
  show wpList _ _ _ _ (fr [(.agg #[(Fl r1), (Fl r3), (Fl r5)]), (Fl b), (Pt b8 0), Ud, Ud, Ud, Ud, Ud, Ud, Ud, Ud, Ud, Ud, Ud, Ud, Ud, Ud, Ud]) _
  refine seqd rfl rfl (does_alloc z40) ?_; rintro _ w19 ⟨b15, rfl, hb16, hB17, E18⟩
  have n20 : b8 < b15 := Nat.lt_of_lt_of_le (Blk.lt hB10) hb16
  have g21 : w.heap.size ≤ b15 := Nat.le_trans (Below.size X14) hb16
  change Blk _ _ [(Fl 0), (Fl 0), (Fl 0)] at hB17
  have X22 := Ext.gr X14 E18
  show wpList _ _ _ _ (fr [(.agg #[(Fl r1), (Fl r3), (Fl r5)]), (Fl b), (Pt b8 0), Ud, (Pt b15 0), Ud, Ud, Ud, Ud, Ud, Ud, Ud, Ud, Ud, Ud, Ud, Ud, Ud]) _
  refine wpList_nil (hK7 _ _ ?_)
  refine wp_seq_k fun K23 hK23 => ?_
  refine wp_region_lit ?_
  refine q_is (l' := [(.agg #[(Fl r1), (Fl r3), (Fl r5)]), (Fl b), (Pt b8 0), Ud, (Pt b15 0), (Pt b8 0), Ud, Ud, Ud, Ud, Ud, Ud, Ud, Ud, Ud, Ud, Ud, Ud]) rfl rfl (does_fieldAddr (ev rfl) fa40_0) rfl ?_
  refine q_is (l' := [(.agg #[(Fl r1), (Fl r3), (Fl r5)]), (Fl b), (Pt b8 0), Ud, (Pt b15 0), (Pt b8 0), (Fl r1), Ud, Ud, Ud, Ud, Ud, Ud, Ud, Ud, Ud, Ud, Ud]) rfl rfl (does_load (u := (Fl r1)) (ev rfl) Try.isAgg38 (Cells.at (Blk.cells (hB10.ext E18)) 0 rfl)) rfl ?_
  refine q_is (l' := [(.agg #[(Fl r1), (Fl r3), (Fl r5)]), (Fl b), (Pt b8 0), Ud, (Pt b15 0), (Pt b8 0), (Fl r1), (Fl b), Ud, Ud, Ud, Ud, Ud, Ud, Ud, Ud, Ud, Ud]) rfl rfl (does_move (u := (Fl b)) (ev rfl)) rfl ?_
  refine seqd rfl rfl (does_float (.inr (.inr (.inl rfl))) (ev rfl) (ev rfl)) ?_; rintro _ w27 ⟨r24, rfl, h25, E26⟩
  have X28 := Ext.gr X22 E26
  show wpList _ _ _ _ (fr [(.agg #[(Fl r1), (Fl r3), (Fl r5)]), (Fl b), (Pt b8 0), Ud, (Pt b15 0), (Pt b8 0), (Fl r1), (Fl b), (Fl r24), Ud, Ud, Ud, Ud, Ud, Ud, Ud, Ud, Ud]) _
  refine q_is (l' := [(.agg #[(Fl r1), (Fl r3), (Fl r5)]), (Fl b), (Pt b8 0), Ud, (Pt b15 0), (Pt b8 0), (Fl r1), (Fl b), (Fl r24), (Pt b8 1), Ud, Ud, Ud, Ud, Ud, Ud, Ud, Ud]) rfl rfl (does_fieldAddr (ev rfl) fa40_1) rfl ?_
  refine q_is (l' := [(.agg #[(Fl r1), (Fl r3), (Fl r5)]), (Fl b), (Pt b8 0), Ud, (Pt b15 0), (Pt b8 0), (Fl r1), (Fl b), (Fl r24), (Pt b8 1), (Fl r3), Ud, Ud, Ud, Ud, Ud, Ud, Ud]) rfl rfl (does_load (u := (Fl r3)) (ev rfl) Try.isAgg38 (Cells.at (Blk.cells ((hB10.ext E18).ext E26)) 1 rfl)) rfl ?_
  refine q_is (l' := [(.agg #[(Fl r1), (Fl r3), (Fl r5)]), (Fl b), (Pt b8 0), Ud, (Pt b15 0), (Pt b8 0), (Fl r1), (Fl b), (Fl r24), (Pt b8 1), (Fl r3), (Fl b), Ud, Ud, Ud, Ud, Ud, Ud]) rfl rfl (does_move (u := (Fl b)) (ev rfl)) rfl ?_
  refine seqd rfl rfl (does_float (.inr (.inr (.inl rfl))) (ev rfl) (ev rfl)) ?_; rintro _ w32 ⟨r29, rfl, h30, E31⟩
  have X33 := Ext.gr X28 E31
  show wpList _ _ _ _ (fr [(.agg #[(Fl r1), (Fl r3), (Fl r5)]), (Fl b), (Pt b8 0), Ud, (Pt b15 0), (Pt b8 0), (Fl r1), (Fl b), (Fl r24), (Pt b8 1), (Fl r3), (Fl b), (Fl r29), Ud, Ud, Ud, Ud, Ud]) _
  refine q_is (l' := [(.agg #[(Fl r1), (Fl r3), (Fl r5)]), (Fl b), (Pt b8 0), Ud, (Pt b15 0), (Pt b8 0), (Fl r1), (Fl b), (Fl r24), (Pt b8 1), (Fl r3), (Fl b), (Fl r29), (Pt b8 2), Ud, Ud, Ud, Ud]) rfl rfl (does_fieldAddr (ev rfl) fa40_2) rfl ?_
  refine q_is (l' := [(.agg #[(Fl r1), (Fl r3), (Fl r5)]), (Fl b), (Pt b8 0), Ud, (Pt b15 0), (Pt b8 0), (Fl r1), (Fl b), (Fl r24), (Pt b8 1), (Fl r3), (Fl b), (Fl r29), (Pt b8 2), (Fl r5), Ud, Ud, Ud]) rfl rfl (does_load (u := (Fl r5)) (ev rfl) Try.isAgg38 (Cells.at (Blk.cells (((hB10.ext E18).ext E26).ext E31)) 2 rfl)) rfl ?_
  refine q_is (l' := [(.agg #[(Fl r1), (Fl r3), (Fl r5)]), (Fl b), (Pt b8 0), Ud, (Pt b15 0), (Pt b8 0), (Fl r1), (Fl b), (Fl r24), (Pt b8 1), (Fl r3), (Fl b), (Fl r29), (Pt b8 2), (Fl r5), (Fl b), Ud, Ud]) rfl rfl (does_move (u := (Fl b)) (ev rfl)) rfl ?_
  refine seqd rfl rfl (does_float (.inr (.inr (.inl rfl))) (ev rfl) (ev rfl)) ?_; rintro _ w37 ⟨r34, rfl, h35, E36⟩
  have X38 := Ext.gr X33 E36
  show wpList _ _ _ _ (fr [(.agg #[(Fl r1), (Fl r3), (Fl r5)]), (Fl b), (Pt b8 0), Ud, (Pt b15 0), (Pt b8 0), (Fl r1), (Fl b), (Fl r24), (Pt b8 1), (Fl r3), (Fl b), (Fl r29), (Pt b8 2), (Fl r5), (Fl b), (Fl r34), Ud]) _
  refine q_is (l' := [(.agg #[(Fl r1), (Fl r3), (Fl r5)]), (Fl b), (Pt b8 0), Ud, (Pt b15 0), (Pt b8 0), (Fl r1), (Fl b), (Fl r24), (Pt b8 1), (Fl r3), (Fl b), (Fl r29), (Pt b8 2), (Fl r5), (Fl b), (Fl r34), (.agg #[(Fl r24), (Fl r29), (Fl r34)])]) rfl rfl (does_build (parts' := [(0, (Fl r24)), (1, (Fl r29)), (2, (Fl r34))]) (cells := #[(Fl r24), (Fl r29), (Fl r34)]) (evp rfl) (by kernel_rfl)) rfl ?_
  refine seqn rfl rfl (does_store (n := 3) (cs := [(Fl 0), (Fl 0), (Fl 0)]) (u := (.agg #[(Fl r24), (Fl r29), (Fl r34)])) (ev rfl) (ev rfl) Try.sizeOf40 rfl (((hB17.ext E26).ext E31).ext E36) (Nat.le_of_ble_eq_true rfl) rfl) ?_; rintro _ w41 ⟨rfl, W39, hB40⟩
  change Blk _ _ [(Fl r24), (Fl r29), (Fl r34)] at hB40
  have X42 := Below.wr X38 W39 g21
  refine wpList_nil (hK23 _ _ ?_)
  refine wp_ret ?_
  refine ret_val (v := (.agg #[(Fl r24), (Fl r29), (Fl r34)])) (res_C rfl (slot rfl) (run_loadAgg (cs := [(Fl r24), (Fl r29), (Fl r34)]) Try.isAgg40 Try.sizeOf40 (Blk.cells hB40) rfl)) X42 ?_
  have x43 : cf .f32 r24 = (vscale A_a (cf .f32 b)).x := by first | with_reducible rfl | (simp only [vscale, h2, h4, h6, h25, h30, h35]; done) | (simp [vscale, h2, h4, h6, h25, h30, h35]; done) | rfl
  have x44 : cf .f32 r29 = (vscale A_a (cf .f32 b)).y := by first | with_reducible rfl | (simp only [vscale, h2, h4, h6, h25, h30, h35]; done) | (simp [vscale, h2, h4, h6, h25, h30, h35]; done) | rfl
  have x45 : cf .f32 r34 = (vscale A_a (cf .f32 b)).z := by first | with_reducible rfl | (simp only [vscale, h2, h4, h6, h25, h30, h35]; done) | (simp [vscale, h2, h4, h6, h25, h30, h35]; done) | rfl
  exact ⟨[(Fl r24), (Fl r29), (Fl r34)], rfl, ⟨r24, r29, r34, rfl, x43, x44, x45⟩⟩

/- spec.l01Less -/
theorem c_spec_l01Less (a : List Value) (A_a : V3) (b : List Value) (A_b : V3) (w : World) (hv_a : RV3 w A_a a) (hv_b : RV3 w A_b b) : Gives Try.prog 107 #[(.agg a.toArray), (.agg b.toArray)] w (fun v w' => ∃ cs_1 : List Value, v = (.agg cs_1.toArray) ∧ RV3 w (vsub A_a A_b) cs_1) := by
  obtain ⟨r1, r3, r5, rfl, h2, h4, h6⟩ := hv_a
  obtain ⟨r7, r9, r11, rfl, h8, h10, h12⟩ := hv_b
  refine enter [(.agg #[(Fl r1), (Fl r3), (Fl r5)]), (.agg #[(Fl r7), (Fl r9), (Fl r11)]), Ud, Ud, Ud, Ud, Ud, Ud, Ud, Ud, Ud, Ud, Ud, Ud, Ud, Ud, Ud, Ud, Ud, Ud, Ud] Try.func107 rfl Try.ntmps107 rfl ?_
  refine wp_seq_k fun K13 hK13 => ?_
  refine wp_region_lit ?_
  refine seqd rfl rfl (does_box (u := (.agg #[(Fl r1), (Fl r3), (Fl r5)])) (ev rfl)) ?_; rintro _ w18 ⟨b14, rfl, hb15, hB16, E17⟩
  have g19 : w.heap.size ≤ b14 := Nat.le_trans (Below.size (Ext.refl w)) hb15
  change Blk _ _ [(Fl r1), (Fl r3), (Fl r5)] at hB16
  have X20 := Ext.gr (Ext.refl w) E17
  show wpList _ _ _ _ (fr [(.agg #[(Fl r1), (Fl r3), (Fl r5)]), (.agg #[(Fl r7), (Fl r9), (Fl r11)]), (Pt b14 0), Ud, Ud, Ud, Ud, Ud, Ud, Ud, Ud, Ud, Ud, Ud, Ud, Ud, Ud, Ud, Ud, Ud, Ud]) _
  refine seqd rfl rfl (does_box (u := (.agg #[(Fl r7), (Fl r9), (Fl r11)])) (ev rfl)) ?_; rintro _ w25 ⟨b21, rfl, hb22, hB23, E24⟩
  have n26 : b14 < b21 := Nat.lt_of_lt_of_le (Blk.lt hB16) hb22
  have g27 : w.heap.size ≤ b21 := Nat.le_trans (Below.size X20) hb22
  change Blk _ _ [(Fl r7), (Fl r9), (Fl r11)] at hB23
  have X28 := Ext.gr X20 E24
  show wpList _ _ _ _ (fr [(.agg #[(Fl r1), (Fl r3), (Fl r5)]), (.agg #[(Fl r7), (Fl r9), (Fl r11)]), (Pt b14 0), (Pt b21 0), Ud, Ud, Ud, Ud, Ud, Ud, Ud, Ud, Ud, Ud, Ud, Ud, Ud, Ud, Ud, Ud, Ud]) _
  refine seqd rfl rfl (does_alloc z40) ?_; rintro _ w33 ⟨b29, rfl, hb30, hB31, E32⟩
  have n34 : b14 < b29 := Nat.lt_of_lt_of_le (Blk.lt (hB16.ext E24)) hb30
  have n35 : b21 < b29 := Nat.lt_of_lt_of_le (Blk.lt hB23) hb30
  have g36 : w.heap.size ≤ b29 := Nat.le_trans (Below.size X28) hb30
  change Blk _ _ [(Fl 0), (Fl 0), (Fl 0)] at hB31
  have X37 := Ext.gr X28 E32
  show wpList _ _ _ _ (fr [(.agg #[(Fl r1), (Fl r3), (Fl r5)]), (.agg #[(Fl r7), (Fl r9), (Fl r11)]), (Pt b14 0), (Pt b21 0), (Pt b29 0), Ud, Ud, Ud, Ud, Ud, Ud, Ud, Ud, Ud, Ud, Ud, Ud, Ud, Ud, Ud, Ud]) _
  refine wpList_nil (hK13 _ _ ?_)
  refine wp_seq_k fun K38 hK38 => ?_
  refine wp_region_lit ?_
  refine q_is (l' := [(.agg #[(Fl r1), (Fl r3), (Fl r5)]), (.agg #[(Fl r7), (Fl r9), (Fl r11)]), (Pt b14 0), (Pt b21 0), (Pt b29 0), (Pt b14 0), Ud, Ud, Ud, Ud, Ud, Ud, Ud, Ud, Ud, Ud, Ud, Ud, Ud, Ud, Ud]) rfl rfl (does_fieldAddr (ev rfl) fa40_0) rfl ?_
  refine q_is (l' := [(.agg #[(Fl r1), (Fl r3), (Fl r5)]), (.agg #[(Fl r7), (Fl r9), (Fl r11)]), (Pt b14 0), (Pt b21 0), (Pt b29 0), (Pt b14 0), (Fl r1), Ud, Ud, Ud, Ud, Ud, Ud, Ud, Ud, Ud, Ud, Ud, Ud, Ud, Ud]) rfl rfl (does_load (u := (Fl r1)) (ev rfl) Try.isAgg38 (Cells.at (Blk.cells ((hB16.ext E24).ext E32)) 0 rfl)) rfl ?_
  refine q_is (l' := [(.agg #[(Fl r1), (Fl r3), (Fl r5)]), (.agg #[(Fl r7), (Fl r9), (Fl r11)]), (Pt b14 0), (Pt b21 0), (Pt b29 0), (Pt b14 0), (Fl r1), (Pt b21 0), Ud, Ud, Ud, Ud, Ud, Ud, Ud, Ud, Ud, Ud, Ud, Ud, Ud]) rfl rfl (does_fieldAddr (ev rfl) fa40_0) rfl ?_
  refine q_is (l' := [(.agg #[(Fl r1), (Fl r3), (Fl r5)]), (.agg #[(Fl r7), (Fl r9), (Fl r11)]), (Pt b14 0), (Pt b21 0), (Pt b29 0), (Pt b14 0), (Fl r1), (Pt b21 0), (Fl r7), Ud, Ud, Ud, Ud, Ud, Ud, Ud, Ud, Ud, Ud, Ud, Ud]) rfl rfl (does_load (u := (Fl r7)) (ev rfl) Try.isAgg38 (Cells.at (Blk.cells (hB23.ext E32)) 0 rfl)) rfl ?_
  refine seqd rfl rfl (does_float (.inr (.inl rfl)) (ev rfl) (ev rfl)) ?_; rintro _ w42 ⟨r39, rfl, h40, E41⟩
  have X43 := Ext.gr X37 E41
  show wpList _ _ _ _ (fr [(.agg #[(Fl r1), (Fl r3), (Fl r5)]), (.agg #[(Fl r7), (Fl r9), (Fl r11)]), (Pt b14 0), (Pt b21 0), (Pt b29 0), (Pt b14 0), (Fl r1), (Pt b21 0), (Fl r7), (Fl r39), Ud, Ud, Ud, Ud, Ud, Ud, Ud, Ud, Ud, Ud, Ud]) _
  refine q_is (l' := [(.agg #[(Fl r1), (Fl r3), (Fl r5)]), (.agg #[(Fl r7), (Fl r9), (Fl r11)]), (Pt b14 0), (Pt b21 0), (Pt b29 0), (Pt b14 0), (Fl r1), (Pt b21 0), (Fl r7), (Fl r39), (Pt b14 1), Ud, Ud, Ud, Ud, Ud, Ud, Ud, Ud, Ud, Ud]) rfl rfl (does_fieldAddr (ev rfl) fa40_1) rfl ?_
  refine q_is (l' := [(.agg #[(Fl r1), (Fl r3), (Fl r5)]), (.agg #[(Fl r7), (Fl r9), (Fl r11)]), (Pt b14 0), (Pt b21 0), (Pt b29 0), (Pt b14 0), (Fl r1), (Pt b21 0), (Fl r7), (Fl r39), (Pt b14 1), (Fl r3), Ud, Ud, Ud, Ud, Ud, Ud, Ud, Ud, Ud]) rfl rfl (does_load (u := (Fl r3)) (ev rfl) Try.isAgg38 (Cells.at (Blk.cells (((hB16.ext E24).ext E32).ext E41)) 1 rfl)) rfl ?_
  refine q_is (l' := [(.agg #[(Fl r1), (Fl r3), (Fl r5)]), (.agg #[(Fl r7), (Fl r9), (Fl r11)]), (Pt b14 0), (Pt b21 0), (Pt b29 0), (Pt b14 0), (Fl r1), (Pt b21 0), (Fl r7), (Fl r39), (Pt b14 1), (Fl r3), (Pt b21 1), Ud, Ud, Ud, Ud, Ud, Ud, Ud, Ud]) rfl rfl (does_fieldAddr (ev rfl) fa40_1) rfl ?_
  refine q_is (l' := [(.agg #[(Fl r1), (Fl r3), (Fl r5)]), (.agg #[(Fl r7), (Fl r9), (Fl r11)]), (Pt b14 0), (Pt b21 0), (Pt b29 0), (Pt b14 0), (Fl r1), (Pt b21 0), (Fl r7), (Fl r39), (Pt b14 1), (Fl r3), (Pt b21 1), (Fl r9), Ud, Ud, Ud, Ud, Ud, Ud, Ud]) rfl rfl (does_load (u := (Fl r9)) (ev rfl) Try.isAgg38 (Cells.at (Blk.cells ((hB23.ext E32).ext E41)) 1 rfl)) rfl ?_
  refine seqd rfl rfl (does_float (.inr (.inl rfl)) (ev rfl) (ev rfl)) ?_; rintro _ w47 ⟨r44, rfl, h45, E46⟩
  have X48 := Ext.gr X43 E46
  show wpList _ _ _ _ (fr [(.agg #[(Fl r1), (Fl r3), (Fl r5)]), (.agg #[(Fl r7), (Fl r9), (Fl r11)]), (Pt b14 0), (Pt b21 0), (Pt b29 0), (Pt b14 0), (Fl r1), (Pt b21 0), (Fl r7), (Fl r39), (Pt b14 1), (Fl r3), (Pt b21 1), (Fl r9), (Fl r44), Ud, Ud, Ud, Ud, Ud, Ud]) _
  refine q_is (l' := [(.agg #[(Fl r1), (Fl r3), (Fl r5)]), (.agg #[(Fl r7), (Fl r9), (Fl r11)]), (Pt b14 0), (Pt b21 0), (Pt b29 0), (Pt b14 0), (Fl r1), (Pt b21 0), (Fl r7), (Fl r39), (Pt b14 1), (Fl r3), (Pt b21 1), (Fl r9), (Fl r44), (Pt b14 2), Ud, Ud, Ud, Ud, Ud]) rfl rfl (does_fieldAddr (ev rfl) fa40_2) rfl ?_
  refine q_is (l' := [(.agg #[(Fl r1), (Fl r3), (Fl r5)]), (.agg #[(Fl r7), (Fl r9), (Fl r11)]), (Pt b14 0), (Pt b21 0), (Pt b29 0), (Pt b14 0), (Fl r1), (Pt b21 0), (Fl r7), (Fl r39), (Pt b14 1), (Fl r3), (Pt b21 1), (Fl r9), (Fl r44), (Pt b14 2), (Fl r5), Ud, Ud, Ud, Ud]) rfl rfl (does_load (u := (Fl r5)) (ev rfl) Try.isAgg38 (Cells.at (Blk.cells ((((hB16.ext E24).ext E32).ext E41).ext E46)) 2 rfl)) rfl ?_
  refine q_is (l' := [(.agg #[(Fl r1), (Fl r3), (Fl r5)]), (.agg #[(Fl r7), (Fl r9), (Fl r11)]), (Pt b14 0), (Pt b21 0), (Pt b29 0), (Pt b14 0), (Fl r1), (Pt b21 0), (Fl r7), (Fl r39), (Pt b14 1), (Fl r3), (Pt b21 1), (Fl r9), (Fl r44), (Pt b14 2), (Fl r5), (Pt b21 2), Ud, Ud, Ud]) rfl rfl (does_fieldAddr (ev rfl) fa40_2) rfl ?_
  refine q_is (l' := [(.agg #[(Fl r1), (Fl r3), (Fl r5)]), (.agg #[(Fl r7), (Fl r9), (Fl r11)]), (Pt b14 0), (Pt b21 0), (Pt b29 0), (Pt b14 0), (Fl r1), (Pt b21 0), (Fl r7), (Fl r39), (Pt b14 1), (Fl r3), (Pt b21 1), (Fl r9), (Fl r44), (Pt b14 2), (Fl r5), (Pt b21 2), (Fl r11), Ud, Ud]) rfl rfl (does_load (u := (Fl r11)) (ev rfl) Try.isAgg38 (Cells.at (Blk.cells (((hB23.ext E32).ext E41).ext E46)) 2 rfl)) rfl ?_
  refine seqd rfl rfl (does_float (.inr (.inl rfl)) (ev rfl) (ev rfl)) ?_; rintro _ w52 ⟨r49, rfl, h50, E51⟩
  have X53 := Ext.gr X48 E51
  show wpList _ _ _ _ (fr [(.agg #[(Fl r1), (Fl r3), (Fl r5)]), (.agg #[(Fl r7), (Fl r9), (Fl r11)]), (Pt b14 0), (Pt b21 0), (Pt b29 0), (Pt b14 0), (Fl r1), (Pt b21 0), (Fl r7), (Fl r39), (Pt b14 1), (Fl r3), (Pt b21 1), (Fl r9), (Fl r44), (Pt b14 2), (Fl r5), (Pt b21 2), (Fl r11), (Fl r49), Ud]) _
  refine q_is (l' := [(.agg #[(Fl r1), (Fl r3), (Fl r5)]), (.agg #[(Fl r7), (Fl r9), (Fl r11)]), (Pt b14 0), (Pt b21 0), (Pt b29 0), (Pt b14 0), (Fl r1), (Pt b21 0), (Fl r7), (Fl r39), (Pt b14 1), (Fl r3), (Pt b21 1), (Fl r9), (Fl r44), (Pt b14 2), (Fl r5), (Pt b21 2), (Fl r11), (Fl r49), (.agg #[(Fl r39), (Fl r44), (Fl r49)])]) rfl rfl (does_build (parts' := [(0, (Fl r39)), (1, (Fl r44)), (2, (Fl r49))]) (cells := #[(Fl r39), (Fl r44), (Fl r49)]) (evp rfl) (by kernel_rfl)) rfl ?_
  refine seqn rfl rfl (does_store (n := 3) (cs := [(Fl 0), (Fl 0), (Fl 0)]) (u := (.agg #[(Fl r39), (Fl r44), (Fl r49)])) (ev rfl) (ev rfl) Try.sizeOf40 rfl (((hB31.ext E41).ext E46).ext E51) (Nat.le_of_ble_eq_true rfl) rfl) ?_; rintro _ w56 ⟨rfl, W54, hB55⟩
  change Blk _ _ [(Fl r39), (Fl r44), (Fl r49)] at hB55
  have X57 := Below.wr X53 W54 g36
  refine wpList_nil (hK38 _ _ ?_)
  refine wp_ret ?_
  refine ret_val (v := (.agg #[(Fl r39), (Fl r44), (Fl r49)])) (res_C rfl (slot rfl) (run_loadAgg (cs := [(Fl r39), (Fl r44), (Fl r49)]) Try.isAgg40 Try.sizeOf40 (Blk.cells hB55) rfl)) X57 ?_
  have x58 : cf .f32 r39 = (vsub A_a A_b).x := by first | with_reducible rfl | (simp only [vsub, h2, h4, h6, h8, h10, h12, h40, h45, h50]; done) | (simp [vsub, h2, h4, h6, h8, h10, h12, h40, h45, h50]; done) | rfl
  have x59 : cf .f32 r44 = (vsub A_a A_b).y := by first | with_reducible rfl | (simp only [vsub, h2, h4, h6, h8, h10, h12, h40, h45, h50]; done) | (simp [vsub, h2, h4, h6, h8, h10, h12, h40, h45, h50]; done) | rfl
  have x60 : cf .f32 r49 = (vsub A_a A_b).z := by first | with_reducible rfl | (simp only [vsub, h2, h4, h6, h8, h10, h12, h40, h45, h50]; done) | (simp [vsub, h2, h4, h6, h8, h10, h12, h40, h45, h50]; done) | rfl
  exact ⟨[(Fl r39), (Fl r44), (Fl r49)], rfl, ⟨r39, r44, r49, rfl, x58, x59, x60⟩⟩

/- spec.l01Between -/
theorem c_spec_l01Between (a : List Value) (A_a : V3) (b : List Value) (A_b : V3) (t_ : Nat) (w : World) (hv_a : RV3 w A_a a) (hv_b : RV3 w A_b b) : Gives Try.prog 91 #[(.agg a.toArray), (.agg b.toArray), (Fl t_)] w (fun v w' => ∃ cs_1 : List Value, v = (.agg cs_1.toArray) ∧ RV3 w (btwV A_a A_b (cf .f32 t_)) cs_1) := by
  obtain ⟨r1, r3, r5, rfl, h2, h4, h6⟩ := hv_a
  obtain ⟨r7, r9, r11, rfl, h8, h10, h12⟩ := hv_b
  refine enter [(.agg #[(Fl r1), (Fl r3), (Fl r5)]), (.agg #[(Fl r7), (Fl r9), (Fl r11)]), (Fl t_), Ud, Ud, Ud, Ud, Ud, Ud, Ud, Ud, Ud, Ud, Ud] Try.func91 rfl Try.ntmps91 rfl ?_
  refine wp_seq_k fun K13 hK13 => ?_
  refine wp_region_lit ?_
  refine seqd rfl rfl (does_box (u := (.agg #[(Fl r1), (Fl r3), (Fl r5)])) (ev rfl)) ?_; rintro _ w18 ⟨b14, rfl, hb15, hB16, E17⟩
  have g19 : w.heap.size ≤ b14 := Nat.le_trans (Below.size (Ext.refl w)) hb15
  change Blk _ _ [(Fl r1), (Fl r3), (Fl r5)] at hB16
  have X20 := Ext.gr (Ext.refl w) E17
  show wpList _ _ _ _ (fr [(.agg #[(Fl r1), (Fl r3), (Fl r5)]), (.agg #[(Fl r7), (Fl r9), (Fl r11)]), (Fl t_), (Pt b14 0), Ud, Ud, Ud, Ud, Ud, Ud, Ud, Ud, Ud, Ud]) _
  refine seqd rfl rfl (does_box (u := (.agg #[(Fl r7), (Fl r9), (Fl r11)])) (ev rfl)) ?_; rintro _ w25 ⟨b21, rfl, hb22, hB23, E24⟩
  have n26 : b14 < b21 := Nat.lt_of_lt_of_le (Blk.lt hB16) hb22
  have g27 : w.heap.size ≤ b21 := Nat.le_trans (Below.size X20) hb22
  change Blk _ _ [(Fl r7), (Fl r9), (Fl r11)] at hB23
  have X28 := Ext.gr X20 E24
  show wpList _ _ _ _ (fr [(.agg #[(Fl r1), (Fl r3), (Fl r5)]), (.agg #[(Fl r7), (Fl r9), (Fl r11)]), (Fl t_), (Pt b14 0), (Pt b21 0), Ud, Ud, Ud, Ud, Ud, Ud, Ud, Ud, Ud]) _
  refine seqd rfl rfl (does_alloc z40) ?_; rintro _ w33 ⟨b29, rfl, hb30, hB31, E32⟩
  have n34 : b14 < b29 := Nat.lt_of_lt_of_le (Blk.lt (hB16.ext E24)) hb30
  have n35 : b21 < b29 := Nat.lt_of_lt_of_le (Blk.lt hB23) hb30
  have g36 : w.heap.size ≤ b29 := Nat.le_trans (Below.size X28) hb30
  change Blk _ _ [(Fl 0), (Fl 0), (Fl 0)] at hB31
  have X37 := Ext.gr X28 E32
  show wpList _ _ _ _ (fr [(.agg #[(Fl r1), (Fl r3), (Fl r5)]), (.agg #[(Fl r7), (Fl r9), (Fl r11)]), (Fl t_), (Pt b14 0), (Pt b21 0), Ud, (Pt b29 0), Ud, Ud, Ud, Ud, Ud, Ud, Ud]) _
  refine wpList_nil (hK13 _ _ ?_)
  refine wp_seq_k fun K38 hK38 => ?_
  refine region_draw (
    [Fact.pure [] (fun v => v = (.agg #[(Fl r1), (Fl r3), (Fl r5)])),
    Fact.pure [] (fun v => v = (.agg #[(Fl r7), (Fl r9), (Fl r11)])),
    Fact.pure [] (fun v => v = (.agg #[(Fl r1), (Fl r3), (Fl r5)])),
    Fact.pure [8, 9] (fun v => ∃ cs_1 : List Value, v = (.agg cs_1.toArray) ∧ RV3 w (vsub A_b A_a) cs_1),
    Fact.pure [] (fun v => v = (Fl t_)),
    Fact.pure [10, 11] (fun v => ∃ cs_1 : List Value, v = (.agg cs_1.toArray) ∧ RV3 w (vscale (vsub A_b A_a) (cf .f32 t_)) cs_1),
    Fact.pure [7, 12] (fun v => ∃ cs_1 : List Value, v = (.agg cs_1.toArray) ∧ RV3 w (vadd A_a (vscale (vsub A_b A_a) (cf .f32 t_))) cs_1)]) mixed (by kernel_rfl) (by intro _ _ d _ _ h; cases d <;> exact h) ?_
  obtain ⟨w39, hw41⟩ : ∃ w', w' = World.drew w33 := ⟨_, rfl⟩; rw [← hw41]; have E40 : Ext w33 w39 := by rw [hw41]; exact Ext.draw _
  clear hw41
  have X42 := Ext.gr X37 E40
  refine RW_d (fun v43 => [(.agg #[(Fl r1), (Fl r3), (Fl r5)]), (.agg #[(Fl r7), (Fl r9), (Fl r11)]), (Fl t_), (Pt b14 0), (Pt b21 0), Ud, (Pt b29 0), v43, Ud, Ud, Ud, Ud, Ud, Ud]) rfl (fun _ => rfl) (fun u hu hF => ?_) (fun v43 => ?_)
  · clear hF
    refine doesG_un rfl ?_
    refine (does_loadAgg (cs := [(Fl r1), (Fl r3), (Fl r5)]) (ev rfl) Try.isAgg40 Try.sizeOf40 (Blk.cells ((((hB16.ext E24).ext E32).ext E40).ext hu)) rfl).mono ?_; rintro _ _ ⟨rfl, rfl⟩
    exact ⟨rfl, Ext.refl _⟩
  refine RW_d (fun v44 => [(.agg #[(Fl r1), (Fl r3), (Fl r5)]), (.agg #[(Fl r7), (Fl r9), (Fl r11)]), (Fl t_), (Pt b14 0), (Pt b21 0), Ud, (Pt b29 0), v43, v44, Ud, Ud, Ud, Ud, Ud]) rfl (fun _ => rfl) (fun u hu hF => ?_) (fun v44 => ?_)
  · clear hF
    refine doesG_un rfl ?_
    refine (does_loadAgg (cs := [(Fl r7), (Fl r9), (Fl r11)]) (ev rfl) Try.isAgg40 Try.sizeOf40 (Blk.cells (((hB23.ext E32).ext E40).ext hu)) rfl).mono ?_; rintro _ _ ⟨rfl, rfl⟩
    exact ⟨rfl, Ext.refl _⟩
  refine RW_d (fun v45 => [(.agg #[(Fl r1), (Fl r3), (Fl r5)]), (.agg #[(Fl r7), (Fl r9), (Fl r11)]), (Fl t_), (Pt b14 0), (Pt b21 0), Ud, (Pt b29 0), v43, v44, v45, Ud, Ud, Ud, Ud]) rfl (fun _ => rfl) (fun u hu hF => ?_) (fun v45 => ?_)
  · clear hF
    refine doesG_un rfl ?_
    refine (does_loadAgg (cs := [(Fl r1), (Fl r3), (Fl r5)]) (ev rfl) Try.isAgg40 Try.sizeOf40 (Blk.cells ((((hB16.ext E24).ext E32).ext E40).ext hu)) rfl).mono ?_; rintro _ _ ⟨rfl, rfl⟩
    exact ⟨rfl, Ext.refl _⟩
  refine RW_d (fun v46 => [(.agg #[(Fl r1), (Fl r3), (Fl r5)]), (.agg #[(Fl r7), (Fl r9), (Fl r11)]), (Fl t_), (Pt b14 0), (Pt b21 0), Ud, (Pt b29 0), v43, v44, v45, v46, Ud, Ud, Ud]) rfl (fun _ => rfl) (fun u hu hF => ?_) (fun v46 => ?_)
  · have h8_ : v44 = (.agg #[(Fl r7), (Fl r9), (Fl r11)]) := hF.1
    have h9_ : v45 = (.agg #[(Fl r1), (Fl r3), (Fl r5)]) := hF.2.1
    clear hF
    refine doesG_un rfl ?_
    obtain rfl := h8_
    obtain rfl := h9_
    refine (does_call (args := #[(.agg #[(Fl r7), (Fl r9), (Fl r11)]), (.agg #[(Fl r1), (Fl r3), (Fl r5)])]) cal107 (evs rfl) (c_spec_l01Less [(Fl r7), (Fl r9), (Fl r11)] A_b [(Fl r1), (Fl r3), (Fl r5)] A_a _ ⟨r7, r9, r11, rfl, h8, h10, h12⟩ ⟨r1, r3, r5, rfl, h2, h4, h6⟩)).mono ?_; rintro v u' ⟨hx, ⟨csn1, hv, k0⟩⟩
    exact ⟨⟨csn1, hv, k0⟩, hx⟩
  refine RW_d (fun v47 => [(.agg #[(Fl r1), (Fl r3), (Fl r5)]), (.agg #[(Fl r7), (Fl r9), (Fl r11)]), (Fl t_), (Pt b14 0), (Pt b21 0), Ud, (Pt b29 0), v43, v44, v45, v46, v47, Ud, Ud]) rfl (fun _ => rfl) (fun u hu hF => ?_) (fun v47 => ?_)
  · clear hF
    refine doesG_un rfl ?_
    refine (does_move (u := (Fl t_)) (ev rfl)).mono ?_; rintro _ _ ⟨rfl, rfl⟩
    exact ⟨rfl, Ext.refl _⟩
  refine RW_d (fun v48 => [(.agg #[(Fl r1), (Fl r3), (Fl r5)]), (.agg #[(Fl r7), (Fl r9), (Fl r11)]), (Fl t_), (Pt b14 0), (Pt b21 0), Ud, (Pt b29 0), v43, v44, v45, v46, v47, v48, Ud]) rfl (fun _ => rfl) (fun u hu hF => ?_) (fun v48 => ?_)
  · have h10_ : ∃ cs_1 : List Value, v46 = (.agg cs_1.toArray) ∧ RV3 w (vsub A_b A_a) cs_1 := hF.1
    have h11_ : v47 = (Fl t_) := hF.2.1
    clear hF
    refine doesG_un rfl ?_
    obtain ⟨_, rfl, ⟨r10_1, r10_3, r10_5, rfl, h10_2, h10_4, h10_6⟩⟩ := h10_
    obtain rfl := h11_
    refine (does_call (args := #[(.agg #[(Fl r10_1), (Fl r10_3), (Fl r10_5)]), (Fl t_)]) cal106 (evs rfl) (c_spec_l01Scale [(Fl r10_1), (Fl r10_3), (Fl r10_5)] (vsub A_b A_a) t_ _ ⟨r10_1, r10_3, r10_5, rfl, (by assumption), (by assumption), (by assumption)⟩)).mono ?_; rintro v u' ⟨hx, ⟨csn1, hv, k0⟩⟩
    exact ⟨⟨csn1, hv.trans (by simp only [h10_2, h10_4, h10_6]), (by first | exact k0 | simpa only [h10_2, h10_4, h10_6] using RV3.any (w := w) k0)⟩, hx⟩
  refine RW_d (fun v49 => [(.agg #[(Fl r1), (Fl r3), (Fl r5)]), (.agg #[(Fl r7), (Fl r9), (Fl r11)]), (Fl t_), (Pt b14 0), (Pt b21 0), Ud, (Pt b29 0), v43, v44, v45, v46, v47, v48, v49]) rfl (fun _ => rfl) (fun u hu hF => ?_) (fun v49 => ?_)
  · have h7_ : v43 = (.agg #[(Fl r1), (Fl r3), (Fl r5)]) := hF.1
    have h12_ : ∃ cs_1 : List Value, v48 = (.agg cs_1.toArray) ∧ RV3 w (vscale (vsub A_b A_a) (cf .f32 t_)) cs_1 := hF.2.1
    clear hF
    refine doesG_un rfl ?_
    obtain rfl := h7_
    obtain ⟨_, rfl, ⟨r12_1, r12_3, r12_5, rfl, h12_2, h12_4, h12_6⟩⟩ := h12_
    refine (does_call (args := #[(.agg #[(Fl r1), (Fl r3), (Fl r5)]), (.agg #[(Fl r12_1), (Fl r12_3), (Fl r12_5)])]) cal105 (evs rfl) (c_spec_l01Add [(Fl r1), (Fl r3), (Fl r5)] A_a [(Fl r12_1), (Fl r12_3), (Fl r12_5)] (vscale (vsub A_b A_a) (cf .f32 t_)) _ ⟨r1, r3, r5, rfl, h2, h4, h6⟩ ⟨r12_1, r12_3, r12_5, rfl, (by assumption), (by assumption), (by assumption)⟩)).mono ?_; rintro v u' ⟨hx, ⟨csn1, hv, k0⟩⟩
    exact ⟨⟨csn1, hv.trans (by simp only [h12_2, h12_4, h12_6]), (by first | exact k0 | simpa only [h12_2, h12_4, h12_6] using RV3.any (w := w) k0)⟩, hx⟩
  refine RW_fin ?_; intro w50 E51 hP52
  obtain ⟨⟨⟨⟨⟨⟨⟨-, -⟩, -⟩, -⟩, -⟩, -⟩, -⟩, q53⟩ := hP52
  have X54 := Ext.gr X42 E51
  have q53 : ∃ cs_1 : List Value, v49 = (.agg cs_1.toArray) ∧ RV3 w (vadd A_a (vscale (vsub A_b A_a) (cf .f32 t_))) cs_1 := q53
  obtain ⟨_, rfl, ⟨r55, r57, r59, rfl, h56, h58, h60⟩⟩ := q53
  show wpList _ _ _ _ (fr [(.agg #[(Fl r1), (Fl r3), (Fl r5)]), (.agg #[(Fl r7), (Fl r9), (Fl r11)]), (Fl t_), (Pt b14 0), (Pt b21 0), Ud, (Pt b29 0), v43, v44, v45, v46, v47, v48, (.agg #[(Fl r55), (Fl r57), (Fl r59)])]) _
  refine seqn rfl rfl (does_store (n := 3) (cs := [(Fl 0), (Fl 0), (Fl 0)]) (u := (.agg #[(Fl r55), (Fl r57), (Fl r59)])) (ev rfl) (ev rfl) Try.sizeOf40 rfl ((hB31.ext E40).ext E51) (Nat.le_of_ble_eq_true rfl) rfl) ?_; rintro _ w63 ⟨rfl, W61, hB62⟩
  change Blk _ _ [(Fl r55), (Fl r57), (Fl r59)] at hB62
  have X64 := Below.wr X54 W61 g36
  refine wpList_nil (hK38 _ _ ?_)
  refine wp_ret ?_
  refine ret_val (v := (.agg #[(Fl r55), (Fl r57), (Fl r59)])) (res_C rfl (slot rfl) (run_loadAgg (cs := [(Fl r55), (Fl r57), (Fl r59)]) Try.isAgg40 Try.sizeOf40 (Blk.cells hB62) rfl)) X64 ?_
  have x65 : cf .f32 r55 = (btwV A_a A_b (cf .f32 t_)).x := by first | with_reducible rfl | (simp only [btwV, h2, h4, h6, h8, h10, h12, h56, h58, h60]; done) | (simp [btwV, h2, h4, h6, h8, h10, h12, h56, h58, h60]; done) | rfl
  have x66 : cf .f32 r57 = (btwV A_a A_b (cf .f32 t_)).y := by first | with_reducible rfl | (simp only [btwV, h2, h4, h6, h8, h10, h12, h56, h58, h60]; done) | (simp [btwV, h2, h4, h6, h8, h10, h12, h56, h58, h60]; done) | rfl
  have x67 : cf .f32 r59 = (btwV A_a A_b (cf .f32 t_)).z := by first | with_reducible rfl | (simp only [btwV, h2, h4, h6, h8, h10, h12, h56, h58, h60]; done) | (simp [btwV, h2, h4, h6, h8, h10, h12, h56, h58, h60]; done) | rfl
  exact ⟨[(Fl r55), (Fl r57), (Fl r59)], rfl, ⟨r55, r57, r59, rfl, x65, x66, x67⟩⟩

/- spec.l10Between -/
theorem c_spec_l10Between (a_b : Nat) (a_o : Nat) (a : List Value) (A_a : KeyT) (b_b : Nat) (b_o : Nat) (b : List Value) (A_b : KeyT) (t_ : Int) (w : World) (hc_a : Cells w a_b a_o a) (hv_a : RKeyT w A_a a) (hc_b : Cells w b_b b_o b) (hv_b : RKeyT w A_b b) : Gives Try.prog 67 #[(Pt a_b a_o), (Pt b_b b_o), (Iv t_)] w (fun v w' => ∃ cs_1 : List Value, v = (.agg cs_1.toArray) ∧ RV3 w (betK A_a A_b t_) cs_1) := by
  obtain ⟨r1, r3, r5, rfl, h2, h4, h6⟩ := hv_a
  obtain ⟨r7, r9, r11, rfl, h8, h10, h12⟩ := hv_b
  refine enter [(Pt a_b a_o), (Pt b_b b_o), (Iv t_), Ud, Ud, Ud, Ud, Ud, Ud, Ud, Ud, Ud, Ud, Ud, Ud, Ud, Ud, Ud, Ud, Ud, Ud, Ud, Ud, Ud, Ud, Ud, Ud, Ud, Ud, Ud, Ud, Ud, Ud, Ud] Try.func67 rfl Try.ntmps67 rfl ?_
  refine wp_seq_k fun K13 hK13 => ?_
  refine wp_region_lit ?_
  refine seqd rfl rfl (does_alloc z40) ?_; rintro _ w18 ⟨b14, rfl, hb15, hB16, E17⟩
  have n19 : a_b < b14 := Nat.lt_of_lt_of_le (cell_lt (Cells.at hc_a 0 rfl)) hb15
  have n20 : b_b < b14 := Nat.lt_of_lt_of_le (cell_lt (Cells.at hc_b 0 rfl)) hb15
  have g21 : w.heap.size ≤ b14 := Nat.le_trans (Below.size (Ext.refl w)) hb15
  change Blk _ _ [(Fl 0), (Fl 0), (Fl 0)] at hB16
  have X22 := Ext.gr (Ext.refl w) E17
  show wpList _ _ _ _ (fr [_, _, _, _, _, _, _, _, _, _, _, _, _, _, _, _, _, _, _, _, _, _, _, _, _, _, _, _, _, _, _, _, _, _]) _
  refine wpList_nil (hK13 _ _ ?_)
  refine wp_seq_k fun K23 hK23 => ?_
  refine region_draw (
    [Fact.pure [] (fun v => v = (Pt a_b a_o)),
    Fact.pure [7] (fun v => v = (Pt a_b a_o)),
    Fact.pure [8] (fun v => v = (Pt a_b (a_o + 1))),
    Fact.pure [9] (fun v => v = (.agg #[(Fl r1), (Fl r3), (Fl r5)])),
    Fact.pure [] (fun v => v = (Pt b_b b_o)),
    Fact.pure [11] (fun v => v = (Pt b_b b_o)),
    Fact.pure [12] (fun v => v = (Pt b_b (b_o + 1))),
    Fact.pure [13] (fun v => v = (.agg #[(Fl r7), (Fl r9), (Fl r11)])),
    Fact.pure [] (fun v => v = (Iv t_)),
    Fact.pure [] (fun v => v = (Pt a_b a_o)),
    Fact.pure [16] (fun v => v = (Pt a_b a_o)),
    Fact.pure [17] (fun v => v = (Pt a_b a_o)),
    Fact.pure [18] (fun v => v = (Iv A_a.at_)),
    Fact.pure [15, 19] (fun v => v = (Iv (IntKind.i64.wrap (t_ - A_a.at_)))),
    Fact.pure [20] (fun v => v = (Fl (FloatKind.f32.nearest (IntKind.i64.wrap (t_ - A_a.at_))))),
    Fact.pure [] (fun v => v = (Pt b_b b_o)),
    Fact.pure [22] (fun v => v = (Pt b_b b_o)),
    Fact.pure [23] (fun v => v = (Pt b_b b_o)),
    Fact.pure [24] (fun v => v = (Iv A_b.at_)),
    Fact.pure [] (fun v => v = (Pt a_b a_o)),
    Fact.pure [26] (fun v => v = (Pt a_b a_o)),
    Fact.pure [27] (fun v => v = (Pt a_b a_o)),
    Fact.pure [28] (fun v => v = (Iv A_a.at_)),
    Fact.pure [25, 29] (fun v => v = (Iv (IntKind.i64.wrap (A_b.at_ - A_a.at_)))),
    Fact.pure [30] (fun v => v = (Fl (FloatKind.f32.nearest (IntKind.i64.wrap (A_b.at_ - A_a.at_))))),
    Fact.pure [21, 31] (fun v => ∃ r_1 : Nat, v = (Fl r_1) ∧ cf .f32 r_1 = fop .quo .f32 (cf .f32 (FloatKind.f32.nearest (IntKind.i64.wrap (t_ - A_a.at_)))) (cf .f32 (FloatKind.f32.nearest (IntKind.i64.wrap (A_b.at_ - A_a.at_))))),
    Fact.pure [10, 14, 32] (fun v => ∃ cs_1 : List Value, v = (.agg cs_1.toArray) ∧ RV3 w (btwV A_a.place A_b.place (fop .quo .f32 (cf .f32 (FloatKind.f32.nearest (IntKind.i64.wrap (t_ - A_a.at_)))) (cf .f32 (FloatKind.f32.nearest (IntKind.i64.wrap (A_b.at_ - A_a.at_)))))) cs_1)]) mixed (by kernel_rfl) (by intro _ _ d _ _ h; cases d <;> exact h) ?_
  obtain ⟨w24, hw26⟩ : ∃ w', w' = World.drew w18 := ⟨_, rfl⟩; rw [← hw26]; have E25 : Ext w18 w24 := by rw [hw26]; exact Ext.draw _
  clear hw26
  have X27 := Ext.gr X22 E25
  refine RW_d _ rfl (fun v => by dsimp only [List.set]; try rfl) (fun u hu hF => ?_) (fun v28 => ?_)
  · clear hF
    refine doesG_un rfl ?_
    refine (does_move (u := (Pt a_b a_o)) (ev rfl)).mono ?_; rintro _ _ ⟨rfl, rfl⟩
    exact ⟨rfl, Ext.refl _⟩
  refine RW_d _ rfl (fun v => by dsimp only [List.set]; try rfl) (fun u hu hF => ?_) (fun v29 => ?_)
  · have h7_ : v28 = (Pt a_b a_o) := hF.1
    clear hF
    refine doesG_un rfl ?_
    obtain rfl := h7_
    refine (does_nilCheck (ev rfl)).mono ?_; rintro _ _ ⟨rfl, rfl⟩
    exact ⟨rfl, Ext.refl _⟩
  refine RW_d _ rfl (fun v => by dsimp only [List.set]; try rfl) (fun u hu hF => ?_) (fun v30 => ?_)
  · have h8_ : v29 = (Pt a_b a_o) := hF.1
    clear hF
    refine doesG_un rfl ?_
    obtain rfl := h8_
    refine (does_fieldAddr (ev rfl) fa119_1).mono ?_; rintro _ _ ⟨rfl, rfl⟩
    exact ⟨rfl, Ext.refl _⟩
  refine RW_d _ rfl (fun v => by dsimp only [List.set]; try rfl) (fun u hu hF => ?_) (fun v31 => ?_)
  · have h9_ : v30 = (Pt a_b (a_o + 1)) := hF.1
    clear hF
    refine doesG_un rfl ?_
    obtain rfl := h9_
    refine (does_loadAgg (cs := [(Fl r1), (Fl r3), (Fl r5)]) (ev rfl) Try.isAgg40 Try.sizeOf40 (Cells.sub ((hc_a.ext (Ext.gr X22 E25)).ext hu) 1 3) rfl).mono ?_; rintro _ _ ⟨rfl, rfl⟩
    exact ⟨rfl, Ext.refl _⟩
  refine RW_d _ rfl (fun v => by dsimp only [List.set]; try rfl) (fun u hu hF => ?_) (fun v32 => ?_)
  · clear hF
    refine doesG_un rfl ?_
    refine (does_move (u := (Pt b_b b_o)) (ev rfl)).mono ?_; rintro _ _ ⟨rfl, rfl⟩
    exact ⟨rfl, Ext.refl _⟩
  refine RW_d _ rfl (fun v => by dsimp only [List.set]; try rfl) (fun u hu hF => ?_) (fun v33 => ?_)
  · have h11_ : v32 = (Pt b_b b_o) := hF.1
    clear hF
    refine doesG_un rfl ?_
    obtain rfl := h11_
    refine (does_nilCheck (ev rfl)).mono ?_; rintro _ _ ⟨rfl, rfl⟩
    exact ⟨rfl, Ext.refl _⟩
  refine RW_d _ rfl (fun v => by dsimp only [List.set]; try rfl) (fun u hu hF => ?_) (fun v34 => ?_)
  · have h12_ : v33 = (Pt b_b b_o) := hF.1
    clear hF
    refine doesG_un rfl ?_
    obtain rfl := h12_
    refine (does_fieldAddr (ev rfl) fa119_1).mono ?_; rintro _ _ ⟨rfl, rfl⟩
    exact ⟨rfl, Ext.refl _⟩
  refine RW_d _ rfl (fun v => by dsimp only [List.set]; try rfl) (fun u hu hF => ?_) (fun v35 => ?_)
  · have h13_ : v34 = (Pt b_b (b_o + 1)) := hF.1
    clear hF
    refine doesG_un rfl ?_
    obtain rfl := h13_
    refine (does_loadAgg (cs := [(Fl r7), (Fl r9), (Fl r11)]) (ev rfl) Try.isAgg40 Try.sizeOf40 (Cells.sub ((hc_b.ext (Ext.gr X22 E25)).ext hu) 1 3) rfl).mono ?_; rintro _ _ ⟨rfl, rfl⟩
    exact ⟨rfl, Ext.refl _⟩
  refine RW_d _ rfl (fun v => by dsimp only [List.set]; try rfl) (fun u hu hF => ?_) (fun v36 => ?_)
  · clear hF
    refine doesG_un rfl ?_
    refine (does_move (u := (Iv t_)) (ev rfl)).mono ?_; rintro _ _ ⟨rfl, rfl⟩
    exact ⟨rfl, Ext.refl _⟩
  refine RW_d _ rfl (fun v => by dsimp only [List.set]; try rfl) (fun u hu hF => ?_) (fun v37 => ?_)
  · clear hF
    refine doesG_un rfl ?_
    refine (does_move (u := (Pt a_b a_o)) (ev rfl)).mono ?_; rintro _ _ ⟨rfl, rfl⟩
    exact ⟨rfl, Ext.refl _⟩
  refine RW_d _ rfl (fun v => by dsimp only [List.set]; try rfl) (fun u hu hF => ?_) (fun v38 => ?_)
  · have h16_ : v37 = (Pt a_b a_o) := hF.1
    clear hF
    refine doesG_un rfl ?_
    obtain rfl := h16_
    refine (does_nilCheck (ev rfl)).mono ?_; rintro _ _ ⟨rfl, rfl⟩
    exact ⟨rfl, Ext.refl _⟩
  refine RW_d _ rfl (fun v => by dsimp only [List.set]; try rfl) (fun u hu hF => ?_) (fun v39 => ?_)
  · have h17_ : v38 = (Pt a_b a_o) := hF.1
    clear hF
    refine doesG_un rfl ?_
    obtain rfl := h17_
    refine (does_fieldAddr (ev rfl) fa119_0).mono ?_; rintro _ _ ⟨rfl, rfl⟩
    exact ⟨rfl, Ext.refl _⟩
  refine RW_d _ rfl (fun v => by dsimp only [List.set]; try rfl) (fun u hu hF => ?_) (fun v40 => ?_)
  · have h18_ : v39 = (Pt a_b a_o) := hF.1
    clear hF
    refine doesG_un rfl ?_
    obtain rfl := h18_
    refine (does_load (u := (Iv A_a.at_)) (ev rfl) Try.isAgg2 (Cells.at ((hc_a.ext (Ext.gr X22 E25)).ext hu) 0 rfl)).mono ?_; rintro _ _ ⟨rfl, rfl⟩
    exact ⟨rfl, Ext.refl _⟩
  refine RW_d _ rfl (fun v => by dsimp only [List.set]; try rfl) (fun u hu hF => ?_) (fun v41 => ?_)
  · have h15_ : v36 = (Iv t_) := hF.1
    have h19_ : v40 = (Iv A_a.at_) := hF.2.1
    clear hF
    refine doesG_un rfl ?_
    obtain rfl := h15_
    obtain rfl := h19_
    refine (does_iarith (p := t_) (q := A_a.at_) (r := IntKind.i64.wrap (t_ - A_a.at_)) (ev rfl) (ev rfl) (.inr (.inl ⟨rfl, rfl⟩))).mono ?_; rintro _ _ ⟨rfl, rfl⟩
    exact ⟨rfl, Ext.refl _⟩
  refine RW_d _ rfl (fun v => by dsimp only [List.set]; try rfl) (fun u hu hF => ?_) (fun v42 => ?_)
  · have h20_ : v41 = (Iv (IntKind.i64.wrap (t_ - A_a.at_))) := hF.1
    clear hF
    refine doesG_un rfl ?_
    obtain rfl := h20_
    refine (does_conv_if (k := .f32) Try.underlying2 Try.underlying38 (ev rfl)).mono ?_; rintro _ _ ⟨rfl, rfl⟩
    exact ⟨rfl, Ext.refl _⟩
  refine RW_d _ rfl (fun v => by dsimp only [List.set]; try rfl) (fun u hu hF => ?_) (fun v43 => ?_)
  · clear hF
    refine doesG_un rfl ?_
    refine (does_move (u := (Pt b_b b_o)) (ev rfl)).mono ?_; rintro _ _ ⟨rfl, rfl⟩
    exact ⟨rfl, Ext.refl _⟩
  refine RW_d _ rfl (fun v => by dsimp only [List.set]; try rfl) (fun u hu hF => ?_) (fun v44 => ?_)
  · have h22_ : v43 = (Pt b_b b_o) := hF.1
    clear hF
    refine doesG_un rfl ?_
    obtain rfl := h22_
    refine (does_nilCheck (ev rfl)).mono ?_; rintro _ _ ⟨rfl, rfl⟩
    exact ⟨rfl, Ext.refl _⟩
  refine RW_d _ rfl (fun v => by dsimp only [List.set]; try rfl) (fun u hu hF => ?_) (fun v45 => ?_)
  · have h23_ : v44 = (Pt b_b b_o) := hF.1
    clear hF
    refine doesG_un rfl ?_
    obtain rfl := h23_
    refine (does_fieldAddr (ev rfl) fa119_0).mono ?_; rintro _ _ ⟨rfl, rfl⟩
    exact ⟨rfl, Ext.refl _⟩
  refine RW_d _ rfl (fun v => by dsimp only [List.set]; try rfl) (fun u hu hF => ?_) (fun v46 => ?_)
  · have h24_ : v45 = (Pt b_b b_o) := hF.1
    clear hF
    refine doesG_un rfl ?_
    obtain rfl := h24_
    refine (does_load (u := (Iv A_b.at_)) (ev rfl) Try.isAgg2 (Cells.at ((hc_b.ext (Ext.gr X22 E25)).ext hu) 0 rfl)).mono ?_; rintro _ _ ⟨rfl, rfl⟩
    exact ⟨rfl, Ext.refl _⟩
  refine RW_d _ rfl (fun v => by dsimp only [List.set]; try rfl) (fun u hu hF => ?_) (fun v47 => ?_)
  · clear hF
    refine doesG_un rfl ?_
    refine (does_move (u := (Pt a_b a_o)) (ev rfl)).mono ?_; rintro _ _ ⟨rfl, rfl⟩
    exact ⟨rfl, Ext.refl _⟩
  refine RW_d _ rfl (fun v => by dsimp only [List.set]; try rfl) (fun u hu hF => ?_) (fun v48 => ?_)
  · have h26_ : v47 = (Pt a_b a_o) := hF.1
    clear hF
    refine doesG_un rfl ?_
    obtain rfl := h26_
    refine (does_nilCheck (ev rfl)).mono ?_; rintro _ _ ⟨rfl, rfl⟩
    exact ⟨rfl, Ext.refl _⟩
  refine RW_d _ rfl (fun v => by dsimp only [List.set]; try rfl) (fun u hu hF => ?_) (fun v49 => ?_)
  · have h27_ : v48 = (Pt a_b a_o) := hF.1
    clear hF
    refine doesG_un rfl ?_
    obtain rfl := h27_
    refine (does_fieldAddr (ev rfl) fa119_0).mono ?_; rintro _ _ ⟨rfl, rfl⟩
    exact ⟨rfl, Ext.refl _⟩
  refine RW_d _ rfl (fun v => by dsimp only [List.set]; try rfl) (fun u hu hF => ?_) (fun v50 => ?_)
  · have h28_ : v49 = (Pt a_b a_o) := hF.1
    clear hF
    refine doesG_un rfl ?_
    obtain rfl := h28_
    refine (does_load (u := (Iv A_a.at_)) (ev rfl) Try.isAgg2 (Cells.at ((hc_a.ext (Ext.gr X22 E25)).ext hu) 0 rfl)).mono ?_; rintro _ _ ⟨rfl, rfl⟩
    exact ⟨rfl, Ext.refl _⟩
  refine RW_d _ rfl (fun v => by dsimp only [List.set]; try rfl) (fun u hu hF => ?_) (fun v51 => ?_)
  · have h25_ : v46 = (Iv A_b.at_) := hF.1
    have h29_ : v50 = (Iv A_a.at_) := hF.2.1
    clear hF
    refine doesG_un rfl ?_
    obtain rfl := h25_
    obtain rfl := h29_
    refine (does_iarith (p := A_b.at_) (q := A_a.at_) (r := IntKind.i64.wrap (A_b.at_ - A_a.at_)) (ev rfl) (ev rfl) (.inr (.inl ⟨rfl, rfl⟩))).mono ?_; rintro _ _ ⟨rfl, rfl⟩
    exact ⟨rfl, Ext.refl _⟩
  refine RW_d _ rfl (fun v => by dsimp only [List.set]; try rfl) (fun u hu hF => ?_) (fun v52 => ?_)
  · have h30_ : v51 = (Iv (IntKind.i64.wrap (A_b.at_ - A_a.at_))) := hF.1
    clear hF
    refine doesG_un rfl ?_
    obtain rfl := h30_
    refine (does_conv_if (k := .f32) Try.underlying2 Try.underlying38 (ev rfl)).mono ?_; rintro _ _ ⟨rfl, rfl⟩
    exact ⟨rfl, Ext.refl _⟩
  refine RW_d _ rfl (fun v => by dsimp only [List.set]; try rfl) (fun u hu hF => ?_) (fun v53 => ?_)
  · have h21_ : v42 = (Fl (FloatKind.f32.nearest (IntKind.i64.wrap (t_ - A_a.at_)))) := hF.1
    have h31_ : v52 = (Fl (FloatKind.f32.nearest (IntKind.i64.wrap (A_b.at_ - A_a.at_)))) := hF.2.1
    clear hF
    refine doesG_un rfl ?_
    obtain rfl := h21_
    obtain rfl := h31_
    refine (does_float (.inr (.inr (.inr rfl))) (ev rfl) (ev rfl)).mono ?_; rintro _ _ ⟨r, rfl, hr, hx⟩
    exact ⟨⟨r, rfl, (by simp only [hr])⟩, hx⟩
  refine RW_d _ rfl (fun v => by dsimp only [List.set]; try rfl) (fun u hu hF => ?_) (fun v54 => ?_)
  · have h10_ : v31 = (.agg #[(Fl r1), (Fl r3), (Fl r5)]) := hF.1
    have h14_ : v35 = (.agg #[(Fl r7), (Fl r9), (Fl r11)]) := hF.2.1
    have h32_ : ∃ r_1 : Nat, v53 = (Fl r_1) ∧ cf .f32 r_1 = fop .quo .f32 (cf .f32 (FloatKind.f32.nearest (IntKind.i64.wrap (t_ - A_a.at_)))) (cf .f32 (FloatKind.f32.nearest (IntKind.i64.wrap (A_b.at_ - A_a.at_)))) := hF.2.2.1
    clear hF
    refine doesG_un rfl ?_
    obtain rfl := h10_
    obtain rfl := h14_
    obtain ⟨r32_1, rfl, h32_2⟩ := h32_
    refine (does_call (args := #[(.agg #[(Fl r1), (Fl r3), (Fl r5)]), (.agg #[(Fl r7), (Fl r9), (Fl r11)]), (Fl r32_1)]) cal91 (evs rfl) (c_spec_l01Between [(Fl r1), (Fl r3), (Fl r5)] A_a.place [(Fl r7), (Fl r9), (Fl r11)] A_b.place r32_1 _ ⟨r1, r3, r5, rfl, h2, h4, h6⟩ ⟨r7, r9, r11, rfl, h8, h10, h12⟩)).mono ?_; rintro v u' ⟨hx, ⟨csn1, hv, k0⟩⟩
    exact ⟨⟨csn1, hv.trans (by simp only [h32_2]), (by first | exact k0 | simpa only [h32_2] using RV3.any (w := w) k0)⟩, hx⟩
  refine RW_fin ?_; intro w55 E56 hP57
  obtain ⟨⟨⟨⟨⟨⟨⟨⟨⟨⟨⟨⟨⟨⟨⟨⟨⟨⟨⟨⟨⟨⟨⟨⟨⟨⟨⟨-, -⟩, -⟩, -⟩, -⟩, -⟩, -⟩, -⟩, -⟩, -⟩, -⟩, -⟩, -⟩, -⟩, -⟩, -⟩, -⟩, -⟩, -⟩, -⟩, -⟩, -⟩, -⟩, -⟩, -⟩, -⟩, -⟩, q58⟩ := hP57
  have X59 := Ext.gr X27 E56
  have q58 : ∃ cs_1 : List Value, v54 = (.agg cs_1.toArray) ∧ RV3 w (btwV A_a.place A_b.place (fop .quo .f32 (cf .f32 (FloatKind.f32.nearest (IntKind.i64.wrap (t_ - A_a.at_)))) (cf .f32 (FloatKind.f32.nearest (IntKind.i64.wrap (A_b.at_ - A_a.at_)))))) cs_1 := q58
  obtain ⟨_, rfl, ⟨r60, r62, r64, rfl, h61, h63, h65⟩⟩ := q58
  show wpList _ _ _ _ (fr [_, _, _, _, _, _, _, _, _, _, _, _, _, _, _, _, _, _, _, _, _, _, _, _, _, _, _, _, _, _, _, _, _, _]) _
  refine seqn rfl rfl (does_store (n := 3) (cs := [(Fl 0), (Fl 0), (Fl 0)]) (u := (.agg #[(Fl r60), (Fl r62), (Fl r64)])) (ev rfl) (ev rfl) Try.sizeOf40 rfl ((hB16.ext E25).ext E56) (Nat.le_of_ble_eq_true rfl) rfl) ?_; rintro _ w68 ⟨rfl, W66, hB67⟩
  change Blk _ _ [(Fl r60), (Fl r62), (Fl r64)] at hB67
  have X69 := Below.wr X59 W66 g21
  refine wpList_nil (hK23 _ _ ?_)
  refine wp_ret ?_
  refine ret_val (v := (.agg #[(Fl r60), (Fl r62), (Fl r64)])) (res_C rfl (slot rfl) (run_loadAgg (cs := [(Fl r60), (Fl r62), (Fl r64)]) Try.isAgg40 Try.sizeOf40 (Blk.cells hB67) rfl)) X69 ?_
  have x70 : cf .f32 r60 = (betK A_a A_b t_).x := by first | with_reducible rfl | (simp only [betK, nrF, h2, h4, h6, h8, h10, h12, h61, h63, h65]; done) | (simp [betK, nrF, h2, h4, h6, h8, h10, h12, h61, h63, h65]; done) | rfl
  have x71 : cf .f32 r62 = (betK A_a A_b t_).y := by first | with_reducible rfl | (simp only [betK, nrF, h2, h4, h6, h8, h10, h12, h61, h63, h65]; done) | (simp [betK, nrF, h2, h4, h6, h8, h10, h12, h61, h63, h65]; done) | rfl
  have x72 : cf .f32 r64 = (betK A_a A_b t_).z := by first | with_reducible rfl | (simp only [betK, nrF, h2, h4, h6, h8, h10, h12, h61, h63, h65]; done) | (simp [betK, nrF, h2, h4, h6, h8, h10, h12, h61, h63, h65]; done) | rfl
  exact ⟨[(Fl r60), (Fl r62), (Fl r64)], rfl, ⟨r60, r62, r64, rfl, x70, x71, x72⟩⟩

/- spec.l10Place -/
theorem c_spec_l10Place (t__b : Nat) (t__o : Nat) (t_ : List Value) (A_t_ : ThingT) (time : Int) (w : World) (hc_t_ : Cells w t__b t__o t_) (hv_t_ : RThingT w A_t_ t_) (hpos : 1 ≤ A_t_.keys.length) : Gives Try.prog 32 #[(Pt t__b t__o), (Iv time)] w (fun v w' => ∃ cs_1 : List Value, v = (.agg cs_1.toArray) ∧ RV3 w (plcF A_t_.keys time) cs_1) := by
  obtain ⟨y2, y4, rfl, h3, h5, hb1⟩ := hv_t_
  have hs8 := h3; have hs8l := Sl.len h3; obtain ⟨p6, q7, rfl⟩ := Sl.shape h3
  have hs11 := h5; have hs11l := Sl.len h5; obtain ⟨p9, q10, rfl⟩ := Sl.shape h5
  refine enter [(Pt t__b t__o), (Iv time), Ud, Ud, Ud, Ud, Ud, Ud, Ud, Ud, Ud, Ud, Ud, Ud, Ud, Ud, Ud, Ud, Ud, Ud, Ud, Ud, Ud, Ud, Ud, Ud, Ud, Ud, Ud, Ud, Ud, Ud, Ud, Ud, Ud, Ud, Ud, Ud, Ud, Ud, Ud, Ud, Ud, Ud, Ud, Ud, Ud, Ud, Ud, Ud, Ud, Ud, Ud, Ud, Ud, Ud, Ud, Ud, Ud, Ud, Ud, Ud, Ud, Ud, Ud, Ud, Ud, Ud, Ud, Ud, Ud, Ud, Ud, Ud, Ud, Ud, Ud, Ud, Ud, Ud, Ud, Ud, Ud, Ud, Ud] Try.func32 rfl Try.ntmps32 rfl ?_
  refine wp_seq_k fun K12 hK12 => ?_
  refine wp_region_lit ?_
  refine seqd rfl rfl (does_alloc z40) ?_; rintro _ w17 ⟨b13, rfl, hb14, hB15, E16⟩
  have n18 : t__b < b13 := Nat.lt_of_lt_of_le (cell_lt (Cells.at hc_t_ 0 rfl)) hb14
  have g19 : w.heap.size ≤ b13 := Nat.le_trans (Below.size (Ext.refl w)) hb14
  change Blk _ _ [(Fl 0), (Fl 0), (Fl 0)] at hB15
  have X20 := Ext.gr (Ext.refl w) E16
  show wpList _ _ _ _ (fr [_, _, _, _, _, _, _, _, _, _, _, _, _, _, _, _, _, _, _, _, _, _, _, _, _, _, _, _, _, _, _, _, _, _, _, _, _, _, _, _, _, _, _, _, _, _, _, _, _, _, _, _, _, _, _, _, _, _, _, _, _, _, _, _, _, _, _, _, _, _, _, _, _, _, _, _, _, _, _, _, _, _, _, _, _]) _
  refine wpList_nil (hK12 _ _ ?_)
  refine wp_seq_k fun K21 hK21 => ?_
  refine wp_region_lit ?_
  refine q_is rfl rfl (does_move (u := (Pt t__b t__o)) (ev rfl)) (by dsimp only [List.set]; try rfl) ?_
  refine q_is rfl rfl (does_nilCheck (ev rfl)) (by dsimp only [List.set]; try rfl) ?_
  refine q_is rfl rfl (does_fieldAddr (ev rfl) fa45_2) (by dsimp only [List.set]; try rfl) ?_
  refine q_is rfl rfl (does_load (u := (.slice p9 A_t_.keys.length q10)) (ev rfl) Try.isAgg43 (Cells.at (hc_t_.ext X20) 2 rfl)) (by dsimp only [List.set]; try rfl) ?_
  refine q_is rfl rfl (does_len_slice Try.underlying43 (ev rfl)) (by dsimp only [List.set]; try rfl) ?_
  refine q_is rfl rfl (does_assign (u := (Iv (A_t_.keys.length : Int))) (ev rfl)) (by dsimp only [List.set]; try rfl) ?_
  refine wpList_nil (hK21 _ _ ?_)
  refine wp_seq_k fun K22 hK22 => ?_
  refine wp_seq_k fun K23 hK23 => ?_
  refine wp_region_lit ?_
  refine q_is rfl rfl (does_move (u := (Iv time)) (ev rfl)) (by dsimp only [List.set]; try rfl) ?_
  refine q_is rfl rfl (does_move (u := (Pt t__b t__o)) (ev rfl)) (by dsimp only [List.set]; try rfl) ?_
  refine q_is rfl rfl (does_nilCheck (ev rfl)) (by dsimp only [List.set]; try rfl) ?_
  refine q_is rfl rfl (does_fieldAddr (ev rfl) fa45_2) (by dsimp only [List.set]; try rfl) ?_
  refine q_is rfl rfl (does_load (u := (.slice p9 A_t_.keys.length q10)) (ev rfl) Try.isAgg43 (Cells.at (hc_t_.ext X20) 2 rfl)) (by dsimp only [List.set]; try rfl) ?_
  obtain ⟨el1, hel1⟩ : ∃ e, A_t_.keys[0]? = some e := ⟨_, List.getElem?_eq_getElem (by omega)⟩
  refine seqd rfl rfl (does_indexSl (R := RKeyT) (i := 0) (xs := A_t_.keys) (e := el1) Try.underlying43 Try.sizeOf119 (ev rfl) (ev rfl) (Sl.ext hs11 RKeyT.mono X20) (by omega) hel1) ?_; rintro _ w17 ⟨b24, o25, _, rfl, hc27, ⟨r28, r30, r32, rfl, h29, h31, h33⟩, rfl⟩
  show wpList _ _ _ _ (fr [_, _, _, _, _, _, _, _, _, _, _, _, _, _, _, _, _, _, _, _, _, _, _, _, _, _, _, _, _, _, _, _, _, _, _, _, _, _, _, _, _, _, _, _, _, _, _, _, _, _, _, _, _, _, _, _, _, _, _, _, _, _, _, _, _, _, _, _, _, _, _, _, _, _, _, _, _, _, _, _, _, _, _, _, _]) _
  refine q_is rfl rfl (does_fieldAddr (ev rfl) fa119_0) (by dsimp only [List.set]; try rfl) ?_
  refine q_is rfl rfl (does_load (u := (Iv el1.at_)) (ev rfl) Try.isAgg2 (Cells.at hc27 0 rfl)) (by dsimp only [List.set]; try rfl) ?_
  refine q_is rfl rfl (does_icmp (p := time) (q := el1.at_) (.inr (.inr (.inr (.inl rfl)))) (ev rfl) (ev rfl)) (by dsimp only [List.set]; try rfl) ?_
  refine wpList_nil (hK23 _ _ ?_)
  refine wp_cond_split (t := icmp .leq time el1.at_) (ev rfl) (fun c34 => ?_) (fun c34 => ?_)
  · have c34' := c34
    (try simp only [icmp, Bool.and_eq_true, Bool.or_eq_true, Bool.and_eq_false_iff, Bool.or_eq_false_iff, Bool.not_eq_true', Bool.not_eq_false', decide_eq_true_eq, decide_eq_false_iff_not, beq_iff_eq, bne_iff_ne, beq_eq_false_iff_ne, bne_eq_false_iff_eq] at c34')
    refine wp_seq_k fun K35 hK35 => ?_
    refine wp_region_lit ?_
    refine q_is rfl rfl (does_move (u := (Pt t__b t__o)) (ev rfl)) (by dsimp only [List.set]; try rfl) ?_
    refine q_is rfl rfl (does_nilCheck (ev rfl)) (by dsimp only [List.set]; try rfl) ?_
    refine q_is rfl rfl (does_fieldAddr (ev rfl) fa45_2) (by dsimp only [List.set]; try rfl) ?_
    refine q_is rfl rfl (does_load (u := (.slice p9 A_t_.keys.length q10)) (ev rfl) Try.isAgg43 (Cells.at (hc_t_.ext X20) 2 rfl)) (by dsimp only [List.set]; try rfl) ?_
    refine seqd rfl rfl (does_indexSl (R := RKeyT) (i := 0) (xs := A_t_.keys) (e := el1) Try.underlying43 Try.sizeOf119 (ev rfl) (ev rfl) (Sl.ext hs11 RKeyT.mono X20) (by omega) hel1) ?_; rintro _ w17 ⟨b36, o37, _, rfl, hc39, ⟨r40, r42, r44, rfl, h41, h43, h45⟩, rfl⟩
    show wpList _ _ _ _ (fr [_, _, _, _, _, _, _, _, _, _, _, _, _, _, _, _, _, _, _, _, _, _, _, _, _, _, _, _, _, _, _, _, _, _, _, _, _, _, _, _, _, _, _, _, _, _, _, _, _, _, _, _, _, _, _, _, _, _, _, _, _, _, _, _, _, _, _, _, _, _, _, _, _, _, _, _, _, _, _, _, _, _, _, _, _]) _
    refine q_is rfl rfl (does_fieldAddr (ev rfl) fa119_1) (by dsimp only [List.set]; try rfl) ?_
    refine q_is rfl rfl (does_loadAgg (cs := [(Fl r40), (Fl r42), (Fl r44)]) (ev rfl) Try.isAgg40 Try.sizeOf40 (Cells.sub hc39 1 3) rfl) (by dsimp only [List.set]; try rfl) ?_
    refine seqn rfl rfl (does_store (n := 3) (cs := [(Fl 0), (Fl 0), (Fl 0)]) (u := (.agg #[(Fl r40), (Fl r42), (Fl r44)])) (ev rfl) (ev rfl) Try.sizeOf40 rfl hB15 (Nat.le_of_ble_eq_true rfl) rfl) ?_; rintro _ w48 ⟨rfl, W46, hB47⟩
    change Blk _ _ [(Fl r40), (Fl r42), (Fl r44)] at hB47
    have X49 := Below.wr X20 W46 g19
    refine wpList_nil (hK35 _ _ ?_)
    refine wp_ret ?_
    dsimp only [Exit.then, Exit.inBlock]
    refine ret_val (v := (.agg #[(Fl r40), (Fl r42), (Fl r44)])) (res_C rfl (slot rfl) (run_loadAgg (cs := [(Fl r40), (Fl r42), (Fl r44)]) Try.isAgg40 Try.sizeOf40 (Blk.cells hB47) rfl)) X49 ?_
    try simp only [hel1, h29, h31, h33, h41, h43, h45] at c34
    have x50 : cf .f32 r40 = (plcF A_t_.keys time).x := by first | (rw [plc_0 hel1 (by omega)]; first | assumption | (simp only [hel1, h29, h31, h33, h41, h43, h45, c34]; done)) | (rw [plc_at hel1 (by omega) hlt (by omega) (by assumption) (by omega)]; first | assumption | (simp only [hel1, h29, h31, h33, h41, h43, h45, c34]; done)) | (rw [plc_bt hel1 (by omega) hlt (by omega) (by assumption) (by omega) (by omega) (by assumption)]; first | assumption | (simp only [hel1, h29, h31, h33, h41, h43, h45, c34]; done)) | (rw [plc_end hel1 (by omega) hlt (by omega) (by assumption)]; first | assumption | (simp only [hel1, h29, h31, h33, h41, h43, h45, c34]; done))
    have x51 : cf .f32 r42 = (plcF A_t_.keys time).y := by first | (rw [plc_0 hel1 (by omega)]; first | assumption | (simp only [hel1, h29, h31, h33, h41, h43, h45, c34]; done)) | (rw [plc_at hel1 (by omega) hlt (by omega) (by assumption) (by omega)]; first | assumption | (simp only [hel1, h29, h31, h33, h41, h43, h45, c34]; done)) | (rw [plc_bt hel1 (by omega) hlt (by omega) (by assumption) (by omega) (by omega) (by assumption)]; first | assumption | (simp only [hel1, h29, h31, h33, h41, h43, h45, c34]; done)) | (rw [plc_end hel1 (by omega) hlt (by omega) (by assumption)]; first | assumption | (simp only [hel1, h29, h31, h33, h41, h43, h45, c34]; done))
    have x52 : cf .f32 r44 = (plcF A_t_.keys time).z := by first | (rw [plc_0 hel1 (by omega)]; first | assumption | (simp only [hel1, h29, h31, h33, h41, h43, h45, c34]; done)) | (rw [plc_at hel1 (by omega) hlt (by omega) (by assumption) (by omega)]; first | assumption | (simp only [hel1, h29, h31, h33, h41, h43, h45, c34]; done)) | (rw [plc_bt hel1 (by omega) hlt (by omega) (by assumption) (by omega) (by omega) (by assumption)]; first | assumption | (simp only [hel1, h29, h31, h33, h41, h43, h45, c34]; done)) | (rw [plc_end hel1 (by omega) hlt (by omega) (by assumption)]; first | assumption | (simp only [hel1, h29, h31, h33, h41, h43, h45, c34]; done))
    exact ⟨[(Fl r40), (Fl r42), (Fl r44)], rfl, ⟨r40, r42, r44, rfl, x50, x51, x52⟩⟩
  have c34' := c34
  (try simp only [icmp, Bool.and_eq_true, Bool.or_eq_true, Bool.and_eq_false_iff, Bool.or_eq_false_iff, Bool.not_eq_true', Bool.not_eq_false', decide_eq_true_eq, decide_eq_false_iff_not, beq_iff_eq, bne_iff_ne, beq_eq_false_iff_ne, bne_eq_false_iff_eq] at c34')
  refine wp_skip (hK22 _ _ ?_)
  refine wp_seq_k fun K53 hK53 => ?_
  refine wp_seq_k fun K54 hK54 => ?_
  refine wp_region_lit ?_
  refine q_is rfl rfl (does_assign (u := (Iv 1)) (ev rfl)) (by dsimp only [List.set]; try rfl) ?_
  refine wpList_nil (hK54 _ _ ?_)
  refine wp_block ?_
  refine loop_ghost (σ := Nat) (fun i a w' => ∃ u55 : Nat → Value, a = fr [(Pt t__b t__o), (Iv time), Ud, Ud, (Pt b13 0), (Iv (A_t_.keys.length : Int)), (Iv (i : Int)), (Pt t__b t__o), (Pt t__b t__o), (Pt t__b (t__o + 2)), (.slice p9 A_t_.keys.length q10), (Iv (A_t_.keys.length : Int)), (Iv time), (Pt t__b t__o), (Pt t__b t__o), (Pt t__b (t__o + 2)), (.slice p9 A_t_.keys.length q10), (Pt b24 o25), (Pt b24 o25), (Iv el1.at_), (Bo (icmp .leq time el1.at_)), Ud, Ud, Ud, Ud, Ud, Ud, Ud, (u55 28), (u55 29), (u55 30), (u55 31), (u55 32), (u55 33), (u55 34), (u55 35), (u55 36), (u55 37), (u55 38), (u55 39), (u55 40), (u55 41), (u55 42), (u55 43), (u55 44), (u55 45), (u55 46), (u55 47), (u55 48), (u55 49), (u55 50), (u55 51), (u55 52), (u55 53), (u55 54), (u55 55), (u55 56), (u55 57), (u55 58), (u55 59), (u55 60), (u55 61), (u55 62), (u55 63), (u55 64), (u55 65), (u55 66), (u55 67), (u55 68), (u55 69), (u55 70), (u55 71), (u55 72), (u55 73), (u55 74), (u55 75), Ud, Ud, Ud, Ud, Ud, Ud, Ud, Ud, Ud] ∧ Ext w17 w' ∧ (1 ≤ i ∧ i ≤ A_t_.keys.length ∧ LateTo A_t_.keys time i)) (fun i => A_t_.keys.length - i) 1 ?_ ?_
  · refine ⟨fun t => (([(Pt t__b t__o), (Iv time), Ud, Ud, (Pt b13 0), (Iv (A_t_.keys.length : Int)), (Iv 1), (Pt t__b t__o), (Pt t__b t__o), (Pt t__b (t__o + 2)), (.slice p9 A_t_.keys.length q10), (Iv (A_t_.keys.length : Int)), (Iv time), (Pt t__b t__o), (Pt t__b t__o), (Pt t__b (t__o + 2)), (.slice p9 A_t_.keys.length q10), (Pt b24 o25), (Pt b24 o25), (Iv el1.at_), (Bo (icmp .leq time el1.at_)), Ud, Ud, Ud, Ud, Ud, Ud, Ud, Ud, Ud, Ud, Ud, Ud, Ud, Ud, Ud, Ud, Ud, Ud, Ud, Ud, Ud, Ud, Ud, Ud, Ud, Ud, Ud, Ud, Ud, Ud, Ud, Ud, Ud, Ud, Ud, Ud, Ud, Ud, Ud, Ud, Ud, Ud, Ud, Ud, Ud, Ud, Ud, Ud, Ud, Ud, Ud, Ud, Ud, Ud, Ud, Ud, Ud, Ud, Ud, Ud, Ud, Ud, Ud, Ud] : List Value)[t]?).getD undef, rfl, Ext.refl _, ?_⟩
    exact ⟨Nat.le_refl _, hpos, LateTo.one⟩
  · rintro i a w56 ⟨u55, rfl, E57, ⟨hi1, hi2, hlt⟩⟩
    have X59 := Ext.gr X20 E57
    refine wp_seq_k fun K60 hK60 => ?_
    refine wp_seq_k fun K61 hK61 => ?_
    refine wp_region_lit ?_
    refine q_is rfl rfl (does_move (u := (Iv (i : Int))) (ev rfl)) (by dsimp only [List.set]; try rfl) ?_
    refine q_is rfl rfl (does_move (u := (Iv (A_t_.keys.length : Int))) (ev rfl)) (by dsimp only [List.set]; try rfl) ?_
    refine q_is rfl rfl (does_icmp (p := (i : Int)) (q := (A_t_.keys.length : Int)) (.inr (.inr (.inl rfl))) (ev rfl) (ev rfl)) (by dsimp only [List.set]; try rfl) ?_
    refine wpList_nil (hK61 _ _ ?_)
    refine wp_cond_split (t := icmp .lss (i : Int) (A_t_.keys.length : Int)) (ev rfl) (fun c62 => ?_) (fun c62 => ?_)
    · have c62' := c62
      (try simp only [icmp, Bool.and_eq_true, Bool.or_eq_true, Bool.and_eq_false_iff, Bool.or_eq_false_iff, Bool.not_eq_true', Bool.not_eq_false', decide_eq_true_eq, decide_eq_false_iff_not, beq_iff_eq, bne_iff_ne, beq_eq_false_iff_ne, bne_eq_false_iff_eq] at c62')
      refine wp_skip (hK60 _ _ ?_)
      refine wp_seq_k fun K63 hK63 => ?_
      refine wp_block ?_
      refine wp_seq_k fun K64 hK64 => ?_
      refine wp_seq_k fun K65 hK65 => ?_
      refine wp_region_lit ?_
      refine q_is rfl rfl (does_move (u := (Iv time)) (ev rfl)) (by dsimp only [List.set]; try rfl) ?_
      refine q_is rfl rfl (does_move (u := (Pt t__b t__o)) (ev rfl)) (by dsimp only [List.set]; try rfl) ?_
      refine q_is rfl rfl (does_nilCheck (ev rfl)) (by dsimp only [List.set]; try rfl) ?_
      refine q_is rfl rfl (does_fieldAddr (ev rfl) fa45_2) (by dsimp only [List.set]; try rfl) ?_
      refine q_is rfl rfl (does_load (u := (.slice p9 A_t_.keys.length q10)) (ev rfl) Try.isAgg43 (Cells.at (hc_t_.ext X59) 2 rfl)) (by dsimp only [List.set]; try rfl) ?_
      refine q_is rfl rfl (does_move (u := (Iv (i : Int))) (ev rfl)) (by dsimp only [List.set]; try rfl) ?_
      obtain ⟨el2, hel2⟩ : ∃ e, A_t_.keys[i]? = some e := ⟨_, List.getElem?_eq_getElem (by omega)⟩
      refine seqd rfl rfl (does_indexSl (R := RKeyT) (i := (i : Int)) (xs := A_t_.keys) (e := el2) Try.underlying43 Try.sizeOf119 (ev rfl) (ev rfl) (Sl.ext hs11 RKeyT.mono X59) (by omega) hel2) ?_; rintro _ w56 ⟨b66, o67, _, rfl, hc69, ⟨r70, r72, r74, rfl, h71, h73, h75⟩, rfl⟩
      show wpList _ _ _ _ (fr [_, _, _, _, _, _, _, _, _, _, _, _, _, _, _, _, _, _, _, _, _, _, _, _, _, _, _, _, _, _, _, _, _, _, _, _, _, _, _, _, _, _, _, _, _, _, _, _, _, _, _, _, _, _, _, _, _, _, _, _, _, _, _, _, _, _, _, _, _, _, _, _, _, _, _, _, _, _, _, _, _, _, _, _, _]) _
      refine q_is rfl rfl (does_fieldAddr (ev rfl) fa119_0) (by dsimp only [List.set]; try rfl) ?_
      refine q_is rfl rfl (does_load (u := (Iv el2.at_)) (ev rfl) Try.isAgg2 (Cells.at hc69 0 rfl)) (by dsimp only [List.set]; try rfl) ?_
      refine q_is rfl rfl (does_icmp (p := time) (q := el2.at_) (.inl rfl) (ev rfl) (ev rfl)) (by dsimp only [List.set]; try rfl) ?_
      refine wpList_nil (hK65 _ _ ?_)
      refine wp_cond_split (t := icmp .eql time el2.at_) (ev rfl) (fun c76 => ?_) (fun c76 => ?_)
      · have c76' := c76
        (try simp only [icmp, Bool.and_eq_true, Bool.or_eq_true, Bool.and_eq_false_iff, Bool.or_eq_false_iff, Bool.not_eq_true', Bool.not_eq_false', decide_eq_true_eq, decide_eq_false_iff_not, beq_iff_eq, bne_iff_ne, beq_eq_false_iff_ne, bne_eq_false_iff_eq] at c76')
        refine wp_seq_k fun K77 hK77 => ?_
        refine wp_region_lit ?_
        refine q_is rfl rfl (does_move (u := (Pt t__b t__o)) (ev rfl)) (by dsimp only [List.set]; try rfl) ?_
        refine q_is rfl rfl (does_nilCheck (ev rfl)) (by dsimp only [List.set]; try rfl) ?_
        refine q_is rfl rfl (does_fieldAddr (ev rfl) fa45_2) (by dsimp only [List.set]; try rfl) ?_
        refine q_is rfl rfl (does_load (u := (.slice p9 A_t_.keys.length q10)) (ev rfl) Try.isAgg43 (Cells.at (hc_t_.ext X59) 2 rfl)) (by dsimp only [List.set]; try rfl) ?_
        refine q_is rfl rfl (does_move (u := (Iv (i : Int))) (ev rfl)) (by dsimp only [List.set]; try rfl) ?_
        refine seqd rfl rfl (does_indexSl (R := RKeyT) (i := (i : Int)) (xs := A_t_.keys) (e := el2) Try.underlying43 Try.sizeOf119 (ev rfl) (ev rfl) (Sl.ext hs11 RKeyT.mono X59) (by omega) hel2) ?_; rintro _ w56 ⟨b78, o79, _, rfl, hc81, ⟨r82, r84, r86, rfl, h83, h85, h87⟩, rfl⟩
        show wpList _ _ _ _ (fr [_, _, _, _, _, _, _, _, _, _, _, _, _, _, _, _, _, _, _, _, _, _, _, _, _, _, _, _, _, _, _, _, _, _, _, _, _, _, _, _, _, _, _, _, _, _, _, _, _, _, _, _, _, _, _, _, _, _, _, _, _, _, _, _, _, _, _, _, _, _, _, _, _, _, _, _, _, _, _, _, _, _, _, _, _]) _
        refine q_is rfl rfl (does_fieldAddr (ev rfl) fa119_1) (by dsimp only [List.set]; try rfl) ?_
        refine q_is rfl rfl (does_loadAgg (cs := [(Fl r82), (Fl r84), (Fl r86)]) (ev rfl) Try.isAgg40 Try.sizeOf40 (Cells.sub hc81 1 3) rfl) (by dsimp only [List.set]; try rfl) ?_
        refine seqn rfl rfl (does_store (n := 3) (cs := [(Fl 0), (Fl 0), (Fl 0)]) (u := (.agg #[(Fl r82), (Fl r84), (Fl r86)])) (ev rfl) (ev rfl) Try.sizeOf40 rfl (hB15.ext E57) (Nat.le_of_ble_eq_true rfl) rfl) ?_; rintro _ w90 ⟨rfl, W88, hB89⟩
        change Blk _ _ [(Fl r82), (Fl r84), (Fl r86)] at hB89
        have X91 := Below.wr X59 W88 g19
        refine wpList_nil (hK77 _ _ ?_)
        refine wp_ret ?_
        dsimp only [Exit.then, Exit.inBlock]
        refine ret_val (v := (.agg #[(Fl r82), (Fl r84), (Fl r86)])) (res_C rfl (slot rfl) (run_loadAgg (cs := [(Fl r82), (Fl r84), (Fl r86)]) Try.isAgg40 Try.sizeOf40 (Blk.cells hB89) rfl)) X91 ?_
        try simp only [hel1, h29, h31, h33, hel2, h71, h73, h75, h83, h85, h87] at c34 c62 c76
        have x92 : cf .f32 r82 = (plcF A_t_.keys time).x := by first | (rw [plc_0 hel1 (by omega)]; first | assumption | (simp only [hel1, h29, h31, h33, hel2, h71, h73, h75, h83, h85, h87, c34, c62, c76]; done)) | (rw [plc_at hel1 (by omega) hlt (by omega) (by assumption) (by omega)]; first | assumption | (simp only [hel1, h29, h31, h33, hel2, h71, h73, h75, h83, h85, h87, c34, c62, c76]; done)) | (rw [plc_bt hel1 (by omega) hlt (by omega) (by assumption) (by omega) (by omega) (by assumption)]; first | assumption | (simp only [hel1, h29, h31, h33, hel2, h71, h73, h75, h83, h85, h87, c34, c62, c76]; done)) | (rw [plc_end hel1 (by omega) hlt (by omega) (by assumption)]; first | assumption | (simp only [hel1, h29, h31, h33, hel2, h71, h73, h75, h83, h85, h87, c34, c62, c76]; done))
        have x93 : cf .f32 r84 = (plcF A_t_.keys time).y := by first | (rw [plc_0 hel1 (by omega)]; first | assumption | (simp only [hel1, h29, h31, h33, hel2, h71, h73, h75, h83, h85, h87, c34, c62, c76]; done)) | (rw [plc_at hel1 (by omega) hlt (by omega) (by assumption) (by omega)]; first | assumption | (simp only [hel1, h29, h31, h33, hel2, h71, h73, h75, h83, h85, h87, c34, c62, c76]; done)) | (rw [plc_bt hel1 (by omega) hlt (by omega) (by assumption) (by omega) (by omega) (by assumption)]; first | assumption | (simp only [hel1, h29, h31, h33, hel2, h71, h73, h75, h83, h85, h87, c34, c62, c76]; done)) | (rw [plc_end hel1 (by omega) hlt (by omega) (by assumption)]; first | assumption | (simp only [hel1, h29, h31, h33, hel2, h71, h73, h75, h83, h85, h87, c34, c62, c76]; done))
        have x94 : cf .f32 r86 = (plcF A_t_.keys time).z := by first | (rw [plc_0 hel1 (by omega)]; first | assumption | (simp only [hel1, h29, h31, h33, hel2, h71, h73, h75, h83, h85, h87, c34, c62, c76]; done)) | (rw [plc_at hel1 (by omega) hlt (by omega) (by assumption) (by omega)]; first | assumption | (simp only [hel1, h29, h31, h33, hel2, h71, h73, h75, h83, h85, h87, c34, c62, c76]; done)) | (rw [plc_bt hel1 (by omega) hlt (by omega) (by assumption) (by omega) (by omega) (by assumption)]; first | assumption | (simp only [hel1, h29, h31, h33, hel2, h71, h73, h75, h83, h85, h87, c34, c62, c76]; done)) | (rw [plc_end hel1 (by omega) hlt (by omega) (by assumption)]; first | assumption | (simp only [hel1, h29, h31, h33, hel2, h71, h73, h75, h83, h85, h87, c34, c62, c76]; done))
        exact ⟨[(Fl r82), (Fl r84), (Fl r86)], rfl, ⟨r82, r84, r86, rfl, x92, x93, x94⟩⟩
      have c76' := c76
      (try simp only [icmp, Bool.and_eq_true, Bool.or_eq_true, Bool.and_eq_false_iff, Bool.or_eq_false_iff, Bool.not_eq_true', Bool.not_eq_false', decide_eq_true_eq, decide_eq_false_iff_not, beq_iff_eq, bne_iff_ne, beq_eq_false_iff_ne, bne_eq_false_iff_eq] at c76')
      refine wp_skip (hK64 _ _ ?_)
      refine wp_seq_k fun K95 hK95 => ?_
      refine wp_region_lit ?_
      refine q_is rfl rfl (does_move (u := (Iv time)) (ev rfl)) (by dsimp only [List.set]; try rfl) ?_
      refine q_is rfl rfl (does_move (u := (Pt t__b t__o)) (ev rfl)) (by dsimp only [List.set]; try rfl) ?_
      refine q_is rfl rfl (does_nilCheck (ev rfl)) (by dsimp only [List.set]; try rfl) ?_
      refine q_is rfl rfl (does_fieldAddr (ev rfl) fa45_2) (by dsimp only [List.set]; try rfl) ?_
      refine q_is rfl rfl (does_load (u := (.slice p9 A_t_.keys.length q10)) (ev rfl) Try.isAgg43 (Cells.at (hc_t_.ext X59) 2 rfl)) (by dsimp only [List.set]; try rfl) ?_
      refine q_is rfl rfl (does_move (u := (Iv (i : Int))) (ev rfl)) (by dsimp only [List.set]; try rfl) ?_
      refine seqd rfl rfl (does_indexSl (R := RKeyT) (i := (i : Int)) (xs := A_t_.keys) (e := el2) Try.underlying43 Try.sizeOf119 (ev rfl) (ev rfl) (Sl.ext hs11 RKeyT.mono X59) (by omega) hel2) ?_; rintro _ w56 ⟨b96, o97, _, rfl, hc99, ⟨r100, r102, r104, rfl, h101, h103, h105⟩, rfl⟩
      show wpList _ _ _ _ (fr [_, _, _, _, _, _, _, _, _, _, _, _, _, _, _, _, _, _, _, _, _, _, _, _, _, _, _, _, _, _, _, _, _, _, _, _, _, _, _, _, _, _, _, _, _, _, _, _, _, _, _, _, _, _, _, _, _, _, _, _, _, _, _, _, _, _, _, _, _, _, _, _, _, _, _, _, _, _, _, _, _, _, _, _, _]) _
      refine q_is rfl rfl (does_fieldAddr (ev rfl) fa119_0) (by dsimp only [List.set]; try rfl) ?_
      refine q_is rfl rfl (does_load (u := (Iv el2.at_)) (ev rfl) Try.isAgg2 (Cells.at hc99 0 rfl)) (by dsimp only [List.set]; try rfl) ?_
      refine q_is rfl rfl (does_icmp (p := time) (q := el2.at_) (.inr (.inr (.inl rfl))) (ev rfl) (ev rfl)) (by dsimp only [List.set]; try rfl) ?_
      refine wpList_nil (hK95 _ _ ?_)
      refine wp_cond_split (t := icmp .lss time el2.at_) (ev rfl) (fun c106 => ?_) (fun c106 => ?_)
      · have c106' := c106
        (try simp only [icmp, Bool.and_eq_true, Bool.or_eq_true, Bool.and_eq_false_iff, Bool.or_eq_false_iff, Bool.not_eq_true', Bool.not_eq_false', decide_eq_true_eq, decide_eq_false_iff_not, beq_iff_eq, bne_iff_ne, beq_eq_false_iff_ne, bne_eq_false_iff_eq] at c106')
        refine wp_seq_k fun K107 hK107 => ?_
        obtain ⟨el3, hel3⟩ : ∃ e, A_t_.keys[((i : Int) - 1).toNat]? = some e := ⟨_, List.getElem?_eq_getElem (by omega)⟩
        refine region_draw (
          [Fact.pure [] (fun v => v = (Pt t__b t__o)),
    Fact.pure [61] (fun v => v = (Pt t__b t__o)),
    Fact.pure [62] (fun v => v = (Pt t__b (t__o + 2))),
    Fact.pure [63] (fun v => v = (.slice p9 A_t_.keys.length q10)),
    Fact.pure [] (fun v => v = (Iv (i : Int))),
    Fact.pure [65] (fun v => v = (Iv ((i : Int) - 1))),
    Fact.mem [64, 66] (fun v w' => PtrR RKeyT w' v el3) (by intro v w1 w2 hx h; exact h.ext RKeyT.mono hx),
    Fact.pure [] (fun v => v = (Pt t__b t__o)),
    Fact.pure [68] (fun v => v = (Pt t__b t__o)),
    Fact.pure [69] (fun v => v = (Pt t__b (t__o + 2))),
    Fact.pure [70] (fun v => v = (.slice p9 A_t_.keys.length q10)),
    Fact.pure [] (fun v => v = (Iv (i : Int))),
    Fact.mem [71, 72] (fun v w' => PtrR RKeyT w' v el2) (by intro v w1 w2 hx h; exact h.ext RKeyT.mono hx),
    Fact.pure [] (fun v => v = (Iv time)),
    Fact.pure [67, 73, 74] (fun v => ∃ cs_1 : List Value, v = (.agg cs_1.toArray) ∧ RV3 w (betK el3 el2 time) cs_1)]) mixed (by kernel_rfl) (by intro _ _ d _ _ h; cases d <;> exact h) ?_
        obtain ⟨w108, hw110⟩ : ∃ w', w' = World.drew w56 := ⟨_, rfl⟩; rw [← hw110]; have E109 : Ext w56 w108 := by rw [hw110]; exact Ext.draw _
        clear hw110
        have X111 := Ext.gr X59 E109
        refine RW_d _ rfl (fun v => by dsimp only [List.set]; try rfl) (fun u hu hF => ?_) (fun v112 => ?_)
        · clear hF
          refine doesG_un rfl ?_
          refine (does_move (u := (Pt t__b t__o)) (ev rfl)).mono ?_; rintro _ _ ⟨rfl, rfl⟩
          exact ⟨rfl, Ext.refl _⟩
        refine RW_d _ rfl (fun v => by dsimp only [List.set]; try rfl) (fun u hu hF => ?_) (fun v113 => ?_)
        · have h61_ : v112 = (Pt t__b t__o) := hF.1
          clear hF
          refine doesG_un rfl ?_
          obtain rfl := h61_
          refine (does_nilCheck (ev rfl)).mono ?_; rintro _ _ ⟨rfl, rfl⟩
          exact ⟨rfl, Ext.refl _⟩
        refine RW_d _ rfl (fun v => by dsimp only [List.set]; try rfl) (fun u hu hF => ?_) (fun v114 => ?_)
        · have h62_ : v113 = (Pt t__b t__o) := hF.1
          clear hF
          refine doesG_un rfl ?_
          obtain rfl := h62_
          refine (does_fieldAddr (ev rfl) fa45_2).mono ?_; rintro _ _ ⟨rfl, rfl⟩
          exact ⟨rfl, Ext.refl _⟩
        refine RW_d _ rfl (fun v => by dsimp only [List.set]; try rfl) (fun u hu hF => ?_) (fun v115 => ?_)
        · have h63_ : v114 = (Pt t__b (t__o + 2)) := hF.1
          clear hF
          refine doesG_un rfl ?_
          obtain rfl := h63_
          refine (does_load (u := (.slice p9 A_t_.keys.length q10)) (ev rfl) Try.isAgg43 (Cells.at ((hc_t_.ext (Ext.gr X59 E109)).ext hu) 2 rfl)).mono ?_; rintro _ _ ⟨rfl, rfl⟩
          exact ⟨rfl, Ext.refl _⟩
        refine RW_d _ rfl (fun v => by dsimp only [List.set]; try rfl) (fun u hu hF => ?_) (fun v116 => ?_)
        · clear hF
          refine doesG_un rfl ?_
          refine (does_move (u := (Iv (i : Int))) (ev rfl)).mono ?_; rintro _ _ ⟨rfl, rfl⟩
          exact ⟨rfl, Ext.refl _⟩
        refine RW_d _ rfl (fun v => by dsimp only [List.set]; try rfl) (fun u hu hF => ?_) (fun v117 => ?_)
        · have h65_ : v116 = (Iv (i : Int)) := hF.1
          clear hF
          refine doesG_un rfl ?_
          obtain rfl := h65_
          refine (does_iarith (p := (i : Int)) (q := 1) (r := (i : Int) - 1) (ev rfl) (ev rfl) (.inr (.inl ⟨rfl, (in_i64 (by omega) (by omega)).symm⟩))).mono ?_; rintro _ _ ⟨rfl, rfl⟩
          exact ⟨rfl, Ext.refl _⟩
        refine RW_d _ rfl (fun v => by dsimp only [List.set]; try rfl) (fun u hu hF => ?_) (fun v118 => ?_)
        · have h64_ : v115 = (.slice p9 A_t_.keys.length q10) := hF.1
          have h66_ : v117 = (Iv ((i : Int) - 1)) := hF.2.1
          clear hF
          refine doesG_un rfl ?_
          obtain rfl := h64_
          obtain rfl := h66_
          refine (does_indexSl (R := RKeyT) (i := (i : Int) - 1) (xs := A_t_.keys) (e := el3) Try.underlying43 Try.sizeOf119 (ev rfl) (ev rfl) (Sl.ext (Sl.ext hs11 RKeyT.mono (Ext.gr X59 E109)) RKeyT.mono hu) (by omega) hel3).mono ?_; rintro v u' ⟨b, of, cs, hv, hc, hR, hu'⟩; subst hu'
          exact ⟨⟨b, of, cs, hv, hc, hR⟩, Ext.refl _⟩
        refine RW_d _ rfl (fun v => by dsimp only [List.set]; try rfl) (fun u hu hF => ?_) (fun v119 => ?_)
        · clear hF
          refine doesG_un rfl ?_
          refine (does_move (u := (Pt t__b t__o)) (ev rfl)).mono ?_; rintro _ _ ⟨rfl, rfl⟩
          exact ⟨rfl, Ext.refl _⟩
        refine RW_d _ rfl (fun v => by dsimp only [List.set]; try rfl) (fun u hu hF => ?_) (fun v120 => ?_)
        · have h68_ : v119 = (Pt t__b t__o) := hF.1
          clear hF
          refine doesG_un rfl ?_
          obtain rfl := h68_
          refine (does_nilCheck (ev rfl)).mono ?_; rintro _ _ ⟨rfl, rfl⟩
          exact ⟨rfl, Ext.refl _⟩
        refine RW_d _ rfl (fun v => by dsimp only [List.set]; try rfl) (fun u hu hF => ?_) (fun v121 => ?_)
        · have h69_ : v120 = (Pt t__b t__o) := hF.1
          clear hF
          refine doesG_un rfl ?_
          obtain rfl := h69_
          refine (does_fieldAddr (ev rfl) fa45_2).mono ?_; rintro _ _ ⟨rfl, rfl⟩
          exact ⟨rfl, Ext.refl _⟩
        refine RW_d _ rfl (fun v => by dsimp only [List.set]; try rfl) (fun u hu hF => ?_) (fun v122 => ?_)
        · have h70_ : v121 = (Pt t__b (t__o + 2)) := hF.1
          clear hF
          refine doesG_un rfl ?_
          obtain rfl := h70_
          refine (does_load (u := (.slice p9 A_t_.keys.length q10)) (ev rfl) Try.isAgg43 (Cells.at ((hc_t_.ext (Ext.gr X59 E109)).ext hu) 2 rfl)).mono ?_; rintro _ _ ⟨rfl, rfl⟩
          exact ⟨rfl, Ext.refl _⟩
        refine RW_d _ rfl (fun v => by dsimp only [List.set]; try rfl) (fun u hu hF => ?_) (fun v123 => ?_)
        · clear hF
          refine doesG_un rfl ?_
          refine (does_move (u := (Iv (i : Int))) (ev rfl)).mono ?_; rintro _ _ ⟨rfl, rfl⟩
          exact ⟨rfl, Ext.refl _⟩
        refine RW_d _ rfl (fun v => by dsimp only [List.set]; try rfl) (fun u hu hF => ?_) (fun v124 => ?_)
        · have h71_ : v122 = (.slice p9 A_t_.keys.length q10) := hF.1
          have h72_ : v123 = (Iv (i : Int)) := hF.2.1
          clear hF
          refine doesG_un rfl ?_
          obtain rfl := h71_
          obtain rfl := h72_
          refine (does_indexSl (R := RKeyT) (i := (i : Int)) (xs := A_t_.keys) (e := el2) Try.underlying43 Try.sizeOf119 (ev rfl) (ev rfl) (Sl.ext (Sl.ext hs11 RKeyT.mono (Ext.gr X59 E109)) RKeyT.mono hu) (by omega) hel2).mono ?_; rintro v u' ⟨b, of, cs, hv, hc, hR, hu'⟩; subst hu'
          exact ⟨⟨b, of, cs, hv, hc, hR⟩, Ext.refl _⟩
        refine RW_d _ rfl (fun v => by dsimp only [List.set]; try rfl) (fun u hu hF => ?_) (fun v125 => ?_)
        · clear hF
          refine doesG_un rfl ?_
          refine (does_move (u := (Iv time)) (ev rfl)).mono ?_; rintro _ _ ⟨rfl, rfl⟩
          exact ⟨rfl, Ext.refl _⟩
        refine RW_d _ rfl (fun v => by dsimp only [List.set]; try rfl) (fun u hu hF => ?_) (fun v126 => ?_)
        · have h67_ : PtrR RKeyT u v118 el3 := hF.1
          have h73_ : PtrR RKeyT u v124 el2 := hF.2.1
          have h74_ : v125 = (Iv time) := hF.2.2.1
          clear hF
          refine doesG_un rfl ?_
          obtain ⟨b67_, o67_, _, rfl, hc67_, ⟨r67_1, r67_3, r67_5, rfl, h67_2, h67_4, h67_6⟩⟩ := h67_
          obtain ⟨b73_, o73_, _, rfl, hc73_, ⟨r73_1, r73_3, r73_5, rfl, h73_2, h73_4, h73_6⟩⟩ := h73_
          obtain rfl := h74_
          refine (does_call (args := #[(Pt b67_ o67_), (Pt b73_ o73_), (Iv time)]) cal67 (evs rfl) (c_spec_l10Between b67_ o67_ [(Iv el3.at_), (Fl r67_1), (Fl r67_3), (Fl r67_5)] el3 b73_ o73_ [(Iv el2.at_), (Fl r73_1), (Fl r73_3), (Fl r73_5)] el2 time _ hc67_ ⟨r67_1, r67_3, r67_5, rfl, (by assumption), (by assumption), (by assumption)⟩ hc73_ ⟨r73_1, r73_3, r73_5, rfl, (by assumption), (by assumption), (by assumption)⟩)).mono ?_; rintro v u' ⟨hx, ⟨csn1, hv, k0⟩⟩
          exact ⟨⟨csn1, hv.trans (by simp only [h67_2, h67_4, h67_6, h73_2, h73_4, h73_6]), (by first | exact k0 | simpa only [h67_2, h67_4, h67_6, h73_2, h73_4, h73_6] using RV3.any (w := w) k0)⟩, hx⟩
        refine RW_fin ?_; intro w127 E128 hP129
        obtain ⟨⟨⟨⟨⟨⟨⟨⟨⟨⟨⟨⟨⟨⟨⟨-, -⟩, -⟩, -⟩, -⟩, -⟩, -⟩, -⟩, -⟩, -⟩, -⟩, -⟩, -⟩, -⟩, -⟩, q130⟩ := hP129
        have X131 := Ext.gr X111 E128
        have q130 : ∃ cs_1 : List Value, v126 = (.agg cs_1.toArray) ∧ RV3 w (betK el3 el2 time) cs_1 := q130
        obtain ⟨_, rfl, ⟨r132, r134, r136, rfl, h133, h135, h137⟩⟩ := q130
        show wpList _ _ _ _ (fr [_, _, _, _, _, _, _, _, _, _, _, _, _, _, _, _, _, _, _, _, _, _, _, _, _, _, _, _, _, _, _, _, _, _, _, _, _, _, _, _, _, _, _, _, _, _, _, _, _, _, _, _, _, _, _, _, _, _, _, _, _, _, _, _, _, _, _, _, _, _, _, _, _, _, _, _, _, _, _, _, _, _, _, _, _]) _
        refine seqn rfl rfl (does_store (n := 3) (cs := [(Fl 0), (Fl 0), (Fl 0)]) (u := (.agg #[(Fl r132), (Fl r134), (Fl r136)])) (ev rfl) (ev rfl) Try.sizeOf40 rfl (((hB15.ext E57).ext E109).ext E128) (Nat.le_of_ble_eq_true rfl) rfl) ?_; rintro _ w140 ⟨rfl, W138, hB139⟩
        change Blk _ _ [(Fl r132), (Fl r134), (Fl r136)] at hB139
        have X141 := Below.wr X131 W138 g19
        refine wpList_nil (hK107 _ _ ?_)
        refine wp_ret ?_
        dsimp only [Exit.then, Exit.inBlock]
        refine ret_val (v := (.agg #[(Fl r132), (Fl r134), (Fl r136)])) (res_C rfl (slot rfl) (run_loadAgg (cs := [(Fl r132), (Fl r134), (Fl r136)]) Try.isAgg40 Try.sizeOf40 (Blk.cells hB139) rfl)) X141 ?_
        try simp only [hel1, h29, h31, h33, hel2, h71, h73, h75, h101, h103, h105, hel3, h133, h135, h137] at c34 c62 c76 c106
        have x142 : cf .f32 r132 = (plcF A_t_.keys time).x := by first | (rw [plc_0 hel1 (by omega)]; first | assumption | (simp only [hel1, h29, h31, h33, hel2, h71, h73, h75, h101, h103, h105, hel3, h133, h135, h137, c34, c62, c76, c106]; done)) | (rw [plc_at hel1 (by omega) hlt (by omega) (by assumption) (by omega)]; first | assumption | (simp only [hel1, h29, h31, h33, hel2, h71, h73, h75, h101, h103, h105, hel3, h133, h135, h137, c34, c62, c76, c106]; done)) | (rw [plc_bt hel1 (by omega) hlt (by omega) (by assumption) (by omega) (by omega) (by assumption)]; first | assumption | (simp only [hel1, h29, h31, h33, hel2, h71, h73, h75, h101, h103, h105, hel3, h133, h135, h137, c34, c62, c76, c106]; done)) | (rw [plc_end hel1 (by omega) hlt (by omega) (by assumption)]; first | assumption | (simp only [hel1, h29, h31, h33, hel2, h71, h73, h75, h101, h103, h105, hel3, h133, h135, h137, c34, c62, c76, c106]; done))
        have x143 : cf .f32 r134 = (plcF A_t_.keys time).y := by first | (rw [plc_0 hel1 (by omega)]; first | assumption | (simp only [hel1, h29, h31, h33, hel2, h71, h73, h75, h101, h103, h105, hel3, h133, h135, h137, c34, c62, c76, c106]; done)) | (rw [plc_at hel1 (by omega) hlt (by omega) (by assumption) (by omega)]; first | assumption | (simp only [hel1, h29, h31, h33, hel2, h71, h73, h75, h101, h103, h105, hel3, h133, h135, h137, c34, c62, c76, c106]; done)) | (rw [plc_bt hel1 (by omega) hlt (by omega) (by assumption) (by omega) (by omega) (by assumption)]; first | assumption | (simp only [hel1, h29, h31, h33, hel2, h71, h73, h75, h101, h103, h105, hel3, h133, h135, h137, c34, c62, c76, c106]; done)) | (rw [plc_end hel1 (by omega) hlt (by omega) (by assumption)]; first | assumption | (simp only [hel1, h29, h31, h33, hel2, h71, h73, h75, h101, h103, h105, hel3, h133, h135, h137, c34, c62, c76, c106]; done))
        have x144 : cf .f32 r136 = (plcF A_t_.keys time).z := by first | (rw [plc_0 hel1 (by omega)]; first | assumption | (simp only [hel1, h29, h31, h33, hel2, h71, h73, h75, h101, h103, h105, hel3, h133, h135, h137, c34, c62, c76, c106]; done)) | (rw [plc_at hel1 (by omega) hlt (by omega) (by assumption) (by omega)]; first | assumption | (simp only [hel1, h29, h31, h33, hel2, h71, h73, h75, h101, h103, h105, hel3, h133, h135, h137, c34, c62, c76, c106]; done)) | (rw [plc_bt hel1 (by omega) hlt (by omega) (by assumption) (by omega) (by omega) (by assumption)]; first | assumption | (simp only [hel1, h29, h31, h33, hel2, h71, h73, h75, h101, h103, h105, hel3, h133, h135, h137, c34, c62, c76, c106]; done)) | (rw [plc_end hel1 (by omega) hlt (by omega) (by assumption)]; first | assumption | (simp only [hel1, h29, h31, h33, hel2, h71, h73, h75, h101, h103, h105, hel3, h133, h135, h137, c34, c62, c76, c106]; done))
        exact ⟨[(Fl r132), (Fl r134), (Fl r136)], rfl, ⟨r132, r134, r136, rfl, x142, x143, x144⟩⟩
      have c106' := c106
      (try simp only [icmp, Bool.and_eq_true, Bool.or_eq_true, Bool.and_eq_false_iff, Bool.or_eq_false_iff, Bool.not_eq_true', Bool.not_eq_false', decide_eq_true_eq, decide_eq_false_iff_not, beq_iff_eq, bne_iff_ne, beq_eq_false_iff_ne, bne_eq_false_iff_eq] at c106')
      refine wp_skip (hK63 _ _ ?_)
      refine wp_region_lit ?_
      refine q_is rfl rfl (does_move (u := (Iv (i : Int))) (ev rfl)) (by dsimp only [List.set]; try rfl) ?_
      refine q_is rfl rfl (does_iarith (p := (i : Int)) (q := 1) (r := (i : Int) + 1) (ev rfl) (ev rfl) (.inl ⟨rfl, (in_i64 (by omega) (by omega)).symm⟩)) (by dsimp only [List.set]; try rfl) ?_
      refine q_is rfl rfl (does_assign (u := (Iv ((i : Int) + 1))) (ev rfl)) (by dsimp only [List.set]; try rfl) ?_
      refine wpList_nil ?_
      refine ⟨i + 1, ⟨fun t => (([(Pt t__b t__o), (Iv time), Ud, Ud, (Pt b13 0), (Iv (A_t_.keys.length : Int)), (Iv ((i : Int) + 1)), (Pt t__b t__o), (Pt t__b t__o), (Pt t__b (t__o + 2)), (.slice p9 A_t_.keys.length q10), (Iv (A_t_.keys.length : Int)), (Iv time), (Pt t__b t__o), (Pt t__b t__o), (Pt t__b (t__o + 2)), (.slice p9 A_t_.keys.length q10), (Pt b24 o25), (Pt b24 o25), (Iv el1.at_), (Bo (icmp .leq time el1.at_)), Ud, Ud, Ud, Ud, Ud, Ud, Ud, (Iv (i : Int)), (Iv (A_t_.keys.length : Int)), (Bo (icmp .lss (i : Int) (A_t_.keys.length : Int))), (Iv (i : Int)), (Iv ((i : Int) + 1)), (Iv time), (Pt t__b t__o), (Pt t__b t__o), (Pt t__b (t__o + 2)), (.slice p9 A_t_.keys.length q10), (Iv (i : Int)), (Pt b66 o67), (Pt b66 o67), (Iv el2.at_), (Bo (icmp .eql time el2.at_)), (u55 43), (u55 44), (u55 45), (u55 46), (u55 47), (u55 48), (u55 49), (u55 50), (Iv time), (Pt t__b t__o), (Pt t__b t__o), (Pt t__b (t__o + 2)), (.slice p9 A_t_.keys.length q10), (Iv (i : Int)), (Pt b96 o97), (Pt b96 o97), (Iv el2.at_), (Bo (icmp .lss time el2.at_)), (u55 61), (u55 62), (u55 63), (u55 64), (u55 65), (u55 66), (u55 67), (u55 68), (u55 69), (u55 70), (u55 71), (u55 72), (u55 73), (u55 74), (u55 75), Ud, Ud, Ud, Ud, Ud, Ud, Ud, Ud, Ud] : List Value)[t]?).getD undef, ?_, E57, ?_⟩, ?_⟩
      · first | rfl | (simp only [Nat.cast_add, Nat.cast_one, Int.natCast_add, Int.natCast_one]; rfl)
      · (try dsimp only); exact ⟨by omega, by omega, LateTo.step hlt (by assumption) (by omega) (by omega)⟩
      · (try dsimp only); omega
    have c62' := c62
    (try simp only [icmp, Bool.and_eq_true, Bool.or_eq_true, Bool.and_eq_false_iff, Bool.or_eq_false_iff, Bool.not_eq_true', Bool.not_eq_false', decide_eq_true_eq, decide_eq_false_iff_not, beq_iff_eq, bne_iff_ne, beq_eq_false_iff_ne, bne_eq_false_iff_eq] at c62')
    refine wp_exit ?_
    refine hK53 _ _ ?_
    refine wp_seq_k fun K145 hK145 => ?_
    refine wp_region_lit ?_
    refine q_is rfl rfl (does_move (u := (Pt t__b t__o)) (ev rfl)) (by dsimp only [List.set]; try rfl) ?_
    refine q_is rfl rfl (does_nilCheck (ev rfl)) (by dsimp only [List.set]; try rfl) ?_
    refine q_is rfl rfl (does_fieldAddr (ev rfl) fa45_2) (by dsimp only [List.set]; try rfl) ?_
    refine q_is rfl rfl (does_load (u := (.slice p9 A_t_.keys.length q10)) (ev rfl) Try.isAgg43 (Cells.at (hc_t_.ext X59) 2 rfl)) (by dsimp only [List.set]; try rfl) ?_
    refine q_is rfl rfl (does_move (u := (Iv (A_t_.keys.length : Int))) (ev rfl)) (by dsimp only [List.set]; try rfl) ?_
    refine q_is rfl rfl (does_iarith (p := (A_t_.keys.length : Int)) (q := 1) (r := (A_t_.keys.length : Int) - 1) (ev rfl) (ev rfl) (.inr (.inl ⟨rfl, (in_i64 (by omega) (by omega)).symm⟩))) (by dsimp only [List.set]; try rfl) ?_
    obtain ⟨el4, hel4⟩ : ∃ e, A_t_.keys[((A_t_.keys.length : Int) - 1).toNat]? = some e := ⟨_, List.getElem?_eq_getElem (by omega)⟩
    refine seqd rfl rfl (does_indexSl (R := RKeyT) (i := (A_t_.keys.length : Int) - 1) (xs := A_t_.keys) (e := el4) Try.underlying43 Try.sizeOf119 (ev rfl) (ev rfl) (Sl.ext hs11 RKeyT.mono X59) (by omega) hel4) ?_; rintro _ w56 ⟨b146, o147, _, rfl, hc149, ⟨r150, r152, r154, rfl, h151, h153, h155⟩, rfl⟩
    show wpList _ _ _ _ (fr [_, _, _, _, _, _, _, _, _, _, _, _, _, _, _, _, _, _, _, _, _, _, _, _, _, _, _, _, _, _, _, _, _, _, _, _, _, _, _, _, _, _, _, _, _, _, _, _, _, _, _, _, _, _, _, _, _, _, _, _, _, _, _, _, _, _, _, _, _, _, _, _, _, _, _, _, _, _, _, _, _, _, _, _, _]) _
    refine q_is rfl rfl (does_fieldAddr (ev rfl) fa119_1) (by dsimp only [List.set]; try rfl) ?_
    refine q_is rfl rfl (does_loadAgg (cs := [(Fl r150), (Fl r152), (Fl r154)]) (ev rfl) Try.isAgg40 Try.sizeOf40 (Cells.sub hc149 1 3) rfl) (by dsimp only [List.set]; try rfl) ?_
    refine seqn rfl rfl (does_store (n := 3) (cs := [(Fl 0), (Fl 0), (Fl 0)]) (u := (.agg #[(Fl r150), (Fl r152), (Fl r154)])) (ev rfl) (ev rfl) Try.sizeOf40 rfl (hB15.ext E57) (Nat.le_of_ble_eq_true rfl) rfl) ?_; rintro _ w158 ⟨rfl, W156, hB157⟩
    change Blk _ _ [(Fl r150), (Fl r152), (Fl r154)] at hB157
    have X159 := Below.wr X59 W156 g19
    refine wpList_nil (hK145 _ _ ?_)
    refine wp_ret ?_
    refine ret_val (v := (.agg #[(Fl r150), (Fl r152), (Fl r154)])) (res_C rfl (slot rfl) (run_loadAgg (cs := [(Fl r150), (Fl r152), (Fl r154)]) Try.isAgg40 Try.sizeOf40 (Blk.cells hB157) rfl)) X159 ?_
    try simp only [hel1, h29, h31, h33, hel4, h151, h153, h155] at c34 c62
    have x160 : cf .f32 r150 = (plcF A_t_.keys time).x := by first | (rw [plc_0 hel1 (by omega)]; first | assumption | (simp only [hel1, h29, h31, h33, hel4, h151, h153, h155, c34, c62]; done)) | (rw [plc_at hel1 (by omega) hlt (by omega) (by assumption) (by omega)]; first | assumption | (simp only [hel1, h29, h31, h33, hel4, h151, h153, h155, c34, c62]; done)) | (rw [plc_bt hel1 (by omega) hlt (by omega) (by assumption) (by omega) (by omega) (by assumption)]; first | assumption | (simp only [hel1, h29, h31, h33, hel4, h151, h153, h155, c34, c62]; done)) | (rw [plc_end hel1 (by omega) hlt (by omega) (by assumption)]; first | assumption | (simp only [hel1, h29, h31, h33, hel4, h151, h153, h155, c34, c62]; done))
    have x161 : cf .f32 r152 = (plcF A_t_.keys time).y := by first | (rw [plc_0 hel1 (by omega)]; first | assumption | (simp only [hel1, h29, h31, h33, hel4, h151, h153, h155, c34, c62]; done)) | (rw [plc_at hel1 (by omega) hlt (by omega) (by assumption) (by omega)]; first | assumption | (simp only [hel1, h29, h31, h33, hel4, h151, h153, h155, c34, c62]; done)) | (rw [plc_bt hel1 (by omega) hlt (by omega) (by assumption) (by omega) (by omega) (by assumption)]; first | assumption | (simp only [hel1, h29, h31, h33, hel4, h151, h153, h155, c34, c62]; done)) | (rw [plc_end hel1 (by omega) hlt (by omega) (by assumption)]; first | assumption | (simp only [hel1, h29, h31, h33, hel4, h151, h153, h155, c34, c62]; done))
    have x162 : cf .f32 r154 = (plcF A_t_.keys time).z := by first | (rw [plc_0 hel1 (by omega)]; first | assumption | (simp only [hel1, h29, h31, h33, hel4, h151, h153, h155, c34, c62]; done)) | (rw [plc_at hel1 (by omega) hlt (by omega) (by assumption) (by omega)]; first | assumption | (simp only [hel1, h29, h31, h33, hel4, h151, h153, h155, c34, c62]; done)) | (rw [plc_bt hel1 (by omega) hlt (by omega) (by assumption) (by omega) (by omega) (by assumption)]; first | assumption | (simp only [hel1, h29, h31, h33, hel4, h151, h153, h155, c34, c62]; done)) | (rw [plc_end hel1 (by omega) hlt (by omega) (by assumption)]; first | assumption | (simp only [hel1, h29, h31, h33, hel4, h151, h153, h155, c34, c62]; done))
    exact ⟨[(Fl r150), (Fl r152), (Fl r154)], rfl, ⟨r150, r152, r154, rfl, x160, x161, x162⟩⟩

/- spec.PlaceAt -/
theorem c_spec_PlaceAt (t_ : List Value) (A_t_ : ThingT) (time : Int) (w : World) (hv_t_ : RThingT w A_t_ t_) : Gives Try.prog 12 #[(.agg t_.toArray), (Iv time)] w (fun v w' => ∃ cs_1 : List Value, v = (.tuple #[(.agg cs_1.toArray), (Bo (plcOk A_t_ time))]) ∧ RV3 w (gvA zV (plcOk A_t_ time) (plcF A_t_.keys time)) cs_1) := by
  obtain ⟨y2, y4, rfl, h3, h5, hb1⟩ := hv_t_
  have hs8 := h3; have hs8l := Sl.len h3; obtain ⟨p6, q7, rfl⟩ := Sl.shape h3
  have hs11 := h5; have hs11l := Sl.len h5; obtain ⟨p9, q10, rfl⟩ := Sl.shape h5
  refine enter [(.agg #[(.string A_t_.name), (.slice p6 A_t_.shape.nodes.length q7), (.slice p9 A_t_.keys.length q10)]), (Iv time), Ud, Ud, Ud, Ud, Ud, Ud, Ud, Ud, Ud, Ud, Ud, Ud, Ud, Ud] Try.func12 rfl Try.ntmps12 rfl ?_
  refine wp_seq_k fun K12 hK12 => ?_
  refine wp_region_lit ?_
  refine seqd rfl rfl (does_box (u := (.agg #[(.string A_t_.name), (.slice p6 A_t_.shape.nodes.length q7), (.slice p9 A_t_.keys.length q10)])) (ev rfl)) ?_; rintro _ w17 ⟨b13, rfl, hb14, hB15, E16⟩
  have g18 : w.heap.size ≤ b13 := Nat.le_trans (Below.size (Ext.refl w)) hb14
  change Blk _ _ [(.string A_t_.name), (.slice p6 A_t_.shape.nodes.length q7), (.slice p9 A_t_.keys.length q10)] at hB15
  have X19 := Ext.gr (Ext.refl w) E16
  show wpList _ _ _ _ (fr [(.agg #[(.string A_t_.name), (.slice p6 A_t_.shape.nodes.length q7), (.slice p9 A_t_.keys.length q10)]), (Iv time), (Pt b13 0), Ud, Ud, Ud, Ud, Ud, Ud, Ud, Ud, Ud, Ud, Ud, Ud, Ud]) _
  refine seqd rfl rfl (does_alloc z40) ?_; rintro _ w24 ⟨b20, rfl, hb21, hB22, E23⟩
  have n25 : b13 < b20 := Nat.lt_of_lt_of_le (Blk.lt hB15) hb21
  have g26 : w.heap.size ≤ b20 := Nat.le_trans (Below.size X19) hb21
  change Blk _ _ [(Fl 0), (Fl 0), (Fl 0)] at hB22
  have X27 := Ext.gr X19 E23
  show wpList _ _ _ _ (fr [(.agg #[(.string A_t_.name), (.slice p6 A_t_.shape.nodes.length q7), (.slice p9 A_t_.keys.length q10)]), (Iv time), (Pt b13 0), Ud, (Pt b20 0), Ud, Ud, Ud, Ud, Ud, Ud, Ud, Ud, Ud, Ud, Ud]) _
  refine q_is (l' := [(.agg #[(.string A_t_.name), (.slice p6 A_t_.shape.nodes.length q7), (.slice p9 A_t_.keys.length q10)]), (Iv time), (Pt b13 0), Ud, (Pt b20 0), (Bo false), Ud, Ud, Ud, Ud, Ud, Ud, Ud, Ud, Ud, Ud]) rfl rfl (does_assign (u := (Bo false)) (ev rfl)) rfl ?_
  refine wpList_nil (hK12 _ _ ?_)
  refine wp_seq_k fun K28 hK28 => ?_
  refine wp_seq_k fun K29 hK29 => ?_
  obtain ⟨β1, hβ1⟩ : ∃ b : Bool, b = ((!(thingOk A_t_)) || (!(inI time 0 10000))) := ⟨_, rfl⟩
  refine region_text (
    [Fact.pure [] (fun v => v = (Bo (thingOk A_t_))),
    Fact.pure [6] (fun v => v = (Bo (!(thingOk A_t_)))),
    Fact.pure [7] (fun v => v = (Bo (!(thingOk A_t_)))),
    Fact.pure [8] (fun v => (!(thingOk A_t_)) = false → v = (Iv time)),
    Fact.pure [9, 8] (fun v => (!(thingOk A_t_)) = false → v = (Bo (inI time 0 10000))),
    Fact.pure [10, 8] (fun v => (!(thingOk A_t_)) = false → v = (Bo (!(inI time 0 10000)))),
    Fact.pure [8, 11] (fun v => v = (Bo β1))]) (by simp [Fact.pure, Fact.mem]) ?_
  refine RW_d (fun v30 => [(.agg #[(.string A_t_.name), (.slice p6 A_t_.shape.nodes.length q7), (.slice p9 A_t_.keys.length q10)]), (Iv time), (Pt b13 0), Ud, (Pt b20 0), (Bo false), v30, Ud, Ud, Ud, Ud, Ud, Ud, Ud, Ud, Ud]) rfl (fun _ => rfl) (fun u hu hF => ?_) (fun v30 => ?_)
  · clear hF
    refine doesG_un rfl ?_
    refine (does_call (args := #[(Pt b13 0)]) cal30 (evs rfl) (c_spec_l10Thing b13 0 [(.string A_t_.name), (.slice p6 A_t_.shape.nodes.length q7), (.slice p9 A_t_.keys.length q10)] A_t_ _ (Blk.cells ((hB15.ext E23).ext hu)) ⟨(.slice p6 A_t_.shape.nodes.length q7), (.slice p9 A_t_.keys.length q10), rfl, (Sl.ext (Sl.ext hs8 RNodeT.mono X27) RNodeT.mono hu), (Sl.ext (Sl.ext hs11 RKeyT.mono X27) RKeyT.mono hu), (by assumption)⟩)).mono ?_; rintro v u' ⟨hx, hv⟩
    exact ⟨hv, hx⟩
  refine RW_d (fun v31 => [(.agg #[(.string A_t_.name), (.slice p6 A_t_.shape.nodes.length q7), (.slice p9 A_t_.keys.length q10)]), (Iv time), (Pt b13 0), Ud, (Pt b20 0), (Bo false), v30, v31, Ud, Ud, Ud, Ud, Ud, Ud, Ud, Ud]) rfl (fun _ => rfl) (fun u hu hF => ?_) (fun v31 => ?_)
  · have h6_ : v30 = (Bo (thingOk A_t_)) := hF.1
    clear hF
    refine doesG_un rfl ?_
    obtain rfl := h6_
    refine (does_not (ev rfl)).mono ?_; rintro _ _ ⟨rfl, rfl⟩
    exact ⟨rfl, Ext.refl _⟩
  refine RW_d (fun v32 => [(.agg #[(.string A_t_.name), (.slice p6 A_t_.shape.nodes.length q7), (.slice p9 A_t_.keys.length q10)]), (Iv time), (Pt b13 0), Ud, (Pt b20 0), (Bo false), v30, v31, v32, Ud, Ud, Ud, Ud, Ud, Ud, Ud]) rfl (fun _ => rfl) (fun u hu hF => ?_) (fun v32 => ?_)
  · have h7_ : v31 = (Bo (!(thingOk A_t_))) := hF.1
    clear hF
    refine doesG_un rfl ?_
    obtain rfl := h7_
    refine (does_move (u := (Bo (!(thingOk A_t_)))) (ev rfl)).mono ?_; rintro _ _ ⟨rfl, rfl⟩
    exact ⟨rfl, Ext.refl _⟩
  refine RW_d (fun v33 => [(.agg #[(.string A_t_.name), (.slice p6 A_t_.shape.nodes.length q7), (.slice p9 A_t_.keys.length q10)]), (Iv time), (Pt b13 0), Ud, (Pt b20 0), (Bo false), v30, v31, v32, v33, Ud, Ud, Ud, Ud, Ud, Ud]) rfl (fun _ => rfl) (fun u hu hF => ?_) (fun v33 => ?_)
  · have h8_ : v32 = (Bo (!(thingOk A_t_))) := hF.1
    clear hF
    obtain rfl := h8_
    refine doesG_g (b := (!(thingOk A_t_))) rfl (yld rfl rfl) (fun hg1 => ?_) (fun hc => ⟨fun hg1 => absurd hg1 hc, Ext.refl _⟩)
    refine (does_move (u := (Iv time)) (ev rfl)).mono ?_; rintro _ _ ⟨rfl, rfl⟩
    exact ⟨fun _ => rfl, Ext.refl _⟩
  refine RW_d (fun v34 => [(.agg #[(.string A_t_.name), (.slice p6 A_t_.shape.nodes.length q7), (.slice p9 A_t_.keys.length q10)]), (Iv time), (Pt b13 0), Ud, (Pt b20 0), (Bo false), v30, v31, v32, v33, v34, Ud, Ud, Ud, Ud, Ud]) rfl (fun _ => rfl) (fun u hu hF => ?_) (fun v34 => ?_)
  · have h9_ : (!(thingOk A_t_)) = false → v33 = (Iv time) := hF.1
    have h8_ : v32 = (Bo (!(thingOk A_t_))) := hF.2.1
    clear hF
    obtain rfl := h8_
    refine doesG_g (b := (!(thingOk A_t_))) rfl (yld rfl rfl) (fun hg1 => ?_) (fun hc => ⟨fun hg1 => absurd hg1 hc, Ext.refl _⟩)
    obtain rfl := h9_ hg1
    refine (does_call (args := #[(Iv time)]) cal31 (evs rfl) (c_spec_l10Time time _)).mono ?_; rintro v u' ⟨hx, hv⟩
    exact ⟨fun _ => hv, hx⟩
  refine RW_d (fun v35 => [(.agg #[(.string A_t_.name), (.slice p6 A_t_.shape.nodes.length q7), (.slice p9 A_t_.keys.length q10)]), (Iv time), (Pt b13 0), Ud, (Pt b20 0), (Bo false), v30, v31, v32, v33, v34, v35, Ud, Ud, Ud, Ud]) rfl (fun _ => rfl) (fun u hu hF => ?_) (fun v35 => ?_)
  · have h10_ : (!(thingOk A_t_)) = false → v34 = (Bo (inI time 0 10000)) := hF.1
    have h8_ : v32 = (Bo (!(thingOk A_t_))) := hF.2.1
    clear hF
    obtain rfl := h8_
    refine doesG_g (b := (!(thingOk A_t_))) rfl (yld rfl rfl) (fun hg1 => ?_) (fun hc => ⟨fun hg1 => absurd hg1 hc, Ext.refl _⟩)
    obtain rfl := h10_ hg1
    refine (does_not (ev rfl)).mono ?_; rintro _ _ ⟨rfl, rfl⟩
    exact ⟨fun _ => rfl, Ext.refl _⟩
  refine RW_d (fun v36 => [(.agg #[(.string A_t_.name), (.slice p6 A_t_.shape.nodes.length q7), (.slice p9 A_t_.keys.length q10)]), (Iv time), (Pt b13 0), Ud, (Pt b20 0), (Bo false), v30, v31, v32, v33, v34, v35, v36, Ud, Ud, Ud]) rfl (fun _ => rfl) (fun u hu hF => ?_) (fun v36 => ?_)
  · have h8_ : v32 = (Bo (!(thingOk A_t_))) := hF.1
    have h11_ : (!(thingOk A_t_)) = false → v35 = (Bo (!(inI time 0 10000))) := hF.2.1
    clear hF
    refine doesG_un rfl ?_
    skip
    obtain rfl := h8_
    refine (does_pick (b := (!(thingOk A_t_))) (u := (Bo true)) (v := v35) (ev rfl) (ev rfl) (ev rfl)).mono ?_; rintro _ _ ⟨rfl, rfl⟩; refine ⟨?_, Ext.refl _⟩; rw [hβ1]; skip
    cases hbb : (!(thingOk A_t_))
    all_goals first | (show _ = _; simp only [↓reduceIte, Bool.true_and, Bool.false_and, Bool.true_or, Bool.false_or, Bool.false_eq_true]; done) | (have e_ := h11_ hbb; subst e_; show _ = _; simp only [↓reduceIte, Bool.true_and, Bool.false_and, Bool.true_or, Bool.false_or, Bool.false_eq_true]; done) | rfl | (have e_ := h11_ hbb; subst e_; rfl) | (simp [hbb] at h11_ ⊢; first | done | rfl | (subst h11_; rfl) | simp_all) | (simp [hbb] at h11_ ⊢; done)
  refine RW_fin ?_; intro w37 E38 hP39
  obtain ⟨⟨⟨⟨⟨⟨⟨-, -⟩, -⟩, -⟩, -⟩, -⟩, -⟩, q40⟩ := hP39
  have X41 := Ext.gr X27 E38
  have q40 : v36 = (Bo β1) := q40
  obtain rfl := q40
  show wpList _ _ _ _ (fr [(.agg #[(.string A_t_.name), (.slice p6 A_t_.shape.nodes.length q7), (.slice p9 A_t_.keys.length q10)]), (Iv time), (Pt b13 0), Ud, (Pt b20 0), (Bo false), v30, v31, v32, v33, v34, v35, (Bo β1), Ud, Ud, Ud]) _
  refine wpList_nil (hK29 _ _ ?_)
  refine wp_cond_split (t := β1) (ev rfl) (fun c42 => ?_) (fun c42 => ?_)
  · have c42' := c42
    (try simp only [hβ1] at c42')
    (try simp only [icmp, Bool.and_eq_true, Bool.or_eq_true, Bool.and_eq_false_iff, Bool.or_eq_false_iff, Bool.not_eq_true', Bool.not_eq_false', decide_eq_true_eq, decide_eq_false_iff_not, beq_iff_eq, bne_iff_ne, beq_eq_false_iff_ne, bne_eq_false_iff_eq] at c42')
    have hpf := plcOk_f c42'
    refine wp_seq_k fun K43 hK43 => ?_
    refine wp_region_lit ?_
    refine q_is (l' := [(.agg #[(.string A_t_.name), (.slice p6 A_t_.shape.nodes.length q7), (.slice p9 A_t_.keys.length q10)]), (Iv time), (Pt b13 0), Ud, (Pt b20 0), (Bo false), v30, v31, v32, v33, v34, v35, (Bo β1), (.agg #[(Fl 0), (Fl 0), (Fl 0)]), Ud, Ud]) rfl rfl (does_build (parts' := []) (cells := #[(Fl 0), (Fl 0), (Fl 0)]) (evp rfl) (by kernel_rfl)) rfl ?_
    refine seqn rfl rfl (does_store (n := 3) (cs := [(Fl 0), (Fl 0), (Fl 0)]) (u := (.agg #[(Fl 0), (Fl 0), (Fl 0)])) (ev rfl) (ev rfl) Try.sizeOf40 rfl (hB22.ext E38) (Nat.le_of_ble_eq_true rfl) rfl) ?_; rintro _ w46 ⟨rfl, W44, hB45⟩
    change Blk _ _ [(Fl 0), (Fl 0), (Fl 0)] at hB45
    have X47 := Below.wr X41 W44 g26
    refine q_is (l' := [(.agg #[(.string A_t_.name), (.slice p6 A_t_.shape.nodes.length q7), (.slice p9 A_t_.keys.length q10)]), (Iv time), (Pt b13 0), Ud, (Pt b20 0), (Bo false), v30, v31, v32, v33, v34, v35, (Bo β1), (.agg #[(Fl 0), (Fl 0), (Fl 0)]), Ud, Ud]) rfl rfl (does_assign (u := (Bo false)) (ev rfl)) rfl ?_
    refine wpList_nil (hK43 _ _ ?_)
    refine wp_ret ?_
    dsimp only [Exit.then, Exit.inBlock]
    refine ret_val (v := (.tuple #[(.agg #[(Fl 0), (Fl 0), (Fl 0)]), (Bo false)])) (res_CT rfl (slot rfl) (run_loadAgg (cs := [(Fl 0), (Fl 0), (Fl 0)]) Try.isAgg40 Try.sizeOf40 (Blk.cells hB45) rfl) (slot rfl)) X47 ?_
    try simp only [hβ1] at c42
    have x48 : (plcOk A_t_ time) = false := by first | exact hpf | exact hpt | (rw [hpf] <;> rfl) | (rw [hpt, gvA_t]; assumption)
    have x49 : cf .f32 0 = (gvA zV (plcOk A_t_ time) (plcF A_t_.keys time)).x := by first | exact hpf | exact hpt | (rw [hpf] <;> rfl) | (rw [hpt, gvA_t]; assumption)
    have x50 : cf .f32 0 = (gvA zV (plcOk A_t_ time) (plcF A_t_.keys time)).y := by first | exact hpf | exact hpt | (rw [hpf] <;> rfl) | (rw [hpt, gvA_t]; assumption)
    have x51 : cf .f32 0 = (gvA zV (plcOk A_t_ time) (plcF A_t_.keys time)).z := by first | exact hpf | exact hpt | (rw [hpf] <;> rfl) | (rw [hpt, gvA_t]; assumption)
    exact ⟨[(Fl 0), (Fl 0), (Fl 0)], (by first | with_reducible rfl | rw [x48] | rfl), ⟨0, 0, 0, rfl, x49, x50, x51⟩⟩
  have c42' := c42
  (try simp only [hβ1] at c42')
  (try simp only [icmp, Bool.and_eq_true, Bool.or_eq_true, Bool.and_eq_false_iff, Bool.or_eq_false_iff, Bool.not_eq_true', Bool.not_eq_false', decide_eq_true_eq, decide_eq_false_iff_not, beq_iff_eq, bne_iff_ne, beq_eq_false_iff_ne, bne_eq_false_iff_eq] at c42')
  have hpt := plcOk_t c42'
  have hkp := thing_pos (c42').1
  refine wp_skip (hK28 _ _ ?_)
  refine wp_seq_k fun K52 hK52 => ?_
  refine wp_region_lit ?_
  refine q_is (l' := [(.agg #[(.string A_t_.name), (.slice p6 A_t_.shape.nodes.length q7), (.slice p9 A_t_.keys.length q10)]), (Iv time), (Pt b13 0), Ud, (Pt b20 0), (Bo false), v30, v31, v32, v33, v34, v35, (Bo β1), Ud, (Iv time), Ud]) rfl rfl (does_move (u := (Iv time)) (ev rfl)) rfl ?_
  refine seqd rfl rfl (does_call (args := #[(Pt b13 0), (Iv time)]) cal32 (evs rfl) (c_spec_l10Place b13 0 [(.string A_t_.name), (.slice p6 A_t_.shape.nodes.length q7), (.slice p9 A_t_.keys.length q10)] A_t_ time _ (Blk.cells ((hB15.ext E23).ext E38)) ⟨(.slice p6 A_t_.shape.nodes.length q7), (.slice p9 A_t_.keys.length q10), rfl, (Sl.ext hs8 RNodeT.mono X41), (Sl.ext hs11 RKeyT.mono X41), (by assumption)⟩ (by exact hkp.1))) ?_; rintro _ w54 ⟨E53, ⟨_, rfl, ⟨r55, r57, r59, rfl, h56, h58, h60⟩⟩⟩
  have X61 := Ext.gr X41 E53
  show wpList _ _ _ _ (fr [(.agg #[(.string A_t_.name), (.slice p6 A_t_.shape.nodes.length q7), (.slice p9 A_t_.keys.length q10)]), (Iv time), (Pt b13 0), Ud, (Pt b20 0), (Bo false), v30, v31, v32, v33, v34, v35, (Bo β1), Ud, (Iv time), (.agg #[(Fl r55), (Fl r57), (Fl r59)])]) _
  refine seqn rfl rfl (does_store (n := 3) (cs := [(Fl 0), (Fl 0), (Fl 0)]) (u := (.agg #[(Fl r55), (Fl r57), (Fl r59)])) (ev rfl) (ev rfl) Try.sizeOf40 rfl ((hB22.ext E38).ext E53) (Nat.le_of_ble_eq_true rfl) rfl) ?_; rintro _ w64 ⟨rfl, W62, hB63⟩
  change Blk _ _ [(Fl r55), (Fl r57), (Fl r59)] at hB63
  have X65 := Below.wr X61 W62 g26
  refine q_is (l' := [(.agg #[(.string A_t_.name), (.slice p6 A_t_.shape.nodes.length q7), (.slice p9 A_t_.keys.length q10)]), (Iv time), (Pt b13 0), Ud, (Pt b20 0), (Bo true), v30, v31, v32, v33, v34, v35, (Bo β1), Ud, (Iv time), (.agg #[(Fl r55), (Fl r57), (Fl r59)])]) rfl rfl (does_assign (u := (Bo true)) (ev rfl)) rfl ?_
  refine wpList_nil (hK52 _ _ ?_)
  refine wp_ret ?_
  refine ret_val (v := (.tuple #[(.agg #[(Fl r55), (Fl r57), (Fl r59)]), (Bo true)])) (res_CT rfl (slot rfl) (run_loadAgg (cs := [(Fl r55), (Fl r57), (Fl r59)]) Try.isAgg40 Try.sizeOf40 (Blk.cells hB63) rfl) (slot rfl)) X65 ?_
  try simp only [hβ1, h56, h58, h60] at c42
  have x66 : (plcOk A_t_ time) = true := by first | exact hpf | exact hpt | (rw [hpf] <;> rfl) | (rw [hpt, gvA_t]; assumption)
  have x67 : cf .f32 r55 = (gvA zV (plcOk A_t_ time) (plcF A_t_.keys time)).x := by first | exact hpf | exact hpt | (rw [hpf] <;> rfl) | (rw [hpt, gvA_t]; assumption)
  have x68 : cf .f32 r57 = (gvA zV (plcOk A_t_ time) (plcF A_t_.keys time)).y := by first | exact hpf | exact hpt | (rw [hpf] <;> rfl) | (rw [hpt, gvA_t]; assumption)
  have x69 : cf .f32 r59 = (gvA zV (plcOk A_t_ time) (plcF A_t_.keys time)).z := by first | exact hpf | exact hpt | (rw [hpf] <;> rfl) | (rw [hpt, gvA_t]; assumption)
  exact ⟨[(Fl r55), (Fl r57), (Fl r59)], (by first | with_reducible rfl | rw [x66] | rfl), ⟨r55, r57, r59, rfl, x67, x68, x69⟩⟩

/- laws.toFloat32S -/
theorem c_laws_toFloat32S (a : Value) (L_a : List Nat) (w : World) (hv_a : Sl RF 1 w a L_a) (hsz : L_a.length ≤ 1048576) : Gives Try.prog 84 #[a] w (fun v w' => ∃ y_1 : Value, ∃ Lw_2 : List Nat, v = y_1 ∧ Hang w.heap.size w' (fun u => Sl RF 1 u y_1 L_a) ∧ WL 1 w.heap.size w' Lw_2 y_1 L_a.length) := by
  have hlen_a := Sl.len hv_a; obtain ⟨p_a, q_a, rfl⟩ := Sl.shape hv_a
  refine enter [(.slice p_a L_a.length q_a), Ud, Ud, Ud, Ud, Ud, Ud, Ud, Ud, Ud, Ud, Ud, Ud, Ud, Ud, Ud, Ud, Ud, Ud, Ud, Ud, Ud] Try.func84 rfl Try.ntmps84 rfl ?_
  refine wp_seq_k fun K1 hK1 => ?_
  refine wp_region_lit ?_
  refine q_is (l' := [(.slice p_a L_a.length q_a), Ud, (.slice none 0 0), Ud, Ud, Ud, Ud, Ud, Ud, Ud, Ud, Ud, Ud, Ud, Ud, Ud, Ud, Ud, Ud, Ud, Ud, Ud]) rfl rfl (does_assign (u := (.slice none 0 0)) (ev rfl)) rfl ?_
  refine wpList_nil (hK1 _ _ ?_)
  refine wp_seq_k fun K2 hK2 => ?_
  refine wp_region_lit ?_
  refine q_is (l' := [(.slice p_a L_a.length q_a), Ud, (.slice none 0 0), Ud, Ud, (.slice p_a L_a.length q_a), Ud, Ud, Ud, Ud, Ud, Ud, Ud, Ud, Ud, Ud, Ud, Ud, Ud, Ud, Ud, Ud]) rfl rfl (does_move (u := (.slice p_a L_a.length q_a)) (ev rfl)) rfl ?_
  refine q_is (l' := [(.slice p_a L_a.length q_a), Ud, (.slice none 0 0), Ud, Ud, (.slice p_a L_a.length q_a), (Iv (L_a.length : Int)), Ud, Ud, Ud, Ud, Ud, Ud, Ud, Ud, Ud, Ud, Ud, Ud, Ud, Ud, Ud]) rfl rfl (does_len_slice Try.underlying97 (ev rfl)) rfl ?_
  refine seqd rfl rfl (does_makeSlice (n := L_a.length) Try.underlying97 inf38 (ev rfl) (ev rfl) (by omega)) ?_; rintro _ w7 ⟨b3, rfl, hb4, ⟨cs8, hB5, hl9, hz10⟩, E6⟩
  have g11 : w.heap.size ≤ b3 := Nat.le_trans (Below.size (Ext.refl w)) hb4
  have X12 := Ext.gr (Ext.refl w) E6
  show wpList _ _ _ _ (fr [(.slice p_a L_a.length q_a), Ud, (.slice none 0 0), Ud, Ud, (.slice p_a L_a.length q_a), (Iv (L_a.length : Int)), (.slice (some ⟨b3, 0, none⟩) L_a.length L_a.length), Ud, Ud, Ud, Ud, Ud, Ud, Ud, Ud, Ud, Ud, Ud, Ud, Ud, Ud]) _
  refine q_is (l' := [(.slice p_a L_a.length q_a), Ud, (.slice none 0 0), (.slice (some ⟨b3, 0, none⟩) L_a.length L_a.length), Ud, (.slice p_a L_a.length q_a), (Iv (L_a.length : Int)), (.slice (some ⟨b3, 0, none⟩) L_a.length L_a.length), Ud, Ud, Ud, Ud, Ud, Ud, Ud, Ud, Ud, Ud, Ud, Ud, Ud, Ud]) rfl rfl (does_assign (u := (.slice (some ⟨b3, 0, none⟩) L_a.length L_a.length)) (ev rfl)) rfl ?_
  refine wpList_nil (hK2 _ _ ?_)
  refine wp_seq_k fun K13 hK13 => ?_
  refine wp_seq_k fun K14 hK14 => ?_
  refine wp_region_lit ?_
  refine q_is (l' := [(.slice p_a L_a.length q_a), Ud, (.slice none 0 0), (.slice (some ⟨b3, 0, none⟩) L_a.length L_a.length), (Iv 0), (.slice p_a L_a.length q_a), (Iv (L_a.length : Int)), (.slice (some ⟨b3, 0, none⟩) L_a.length L_a.length), Ud, Ud, Ud, Ud, Ud, Ud, Ud, Ud, Ud, Ud, Ud, Ud, Ud, Ud]) rfl rfl (does_assign (u := (Iv 0)) (ev rfl)) rfl ?_
  refine wpList_nil (hK14 _ _ ?_)
  refine wp_block ?_
  have hF0 : Fill RF 1 w7 b3 L_a.length L_a 0 := Fill.zero hB5 hl9
  refine loop_ghost (σ := Nat) (fun k a w' => ∃ u15 : Nat → Value, a = fr [(.slice p_a L_a.length q_a), Ud, (.slice none 0 0), (.slice (some ⟨b3, 0, none⟩) L_a.length L_a.length), (Iv (k : Int)), (.slice p_a L_a.length q_a), (Iv (L_a.length : Int)), (.slice (some ⟨b3, 0, none⟩) L_a.length L_a.length), (u15 8), (u15 9), (u15 10), (u15 11), (u15 12), (u15 13), (u15 14), (u15 15), (u15 16), (u15 17), (u15 18), (u15 19), (u15 20), Ud] ∧ KpL [b3] w7 w' ∧ Fill RF 1 w' b3 L_a.length L_a k ∧ (k ≤ L_a.length)) (fun k => L_a.length - k) 0 ?_ ?_
  · refine ⟨fun t => (([(.slice p_a L_a.length q_a), Ud, (.slice none 0 0), (.slice (some ⟨b3, 0, none⟩) L_a.length L_a.length), (Iv 0), (.slice p_a L_a.length q_a), (Iv (L_a.length : Int)), (.slice (some ⟨b3, 0, none⟩) L_a.length L_a.length), Ud, Ud, Ud, Ud, Ud, Ud, Ud, Ud, Ud, Ud, Ud, Ud, Ud, Ud] : List Value)[t]?).getD undef, rfl, KpL.refl _ _, hF0, ?_⟩
    exact Nat.zero_le _
  · rintro k a w16 ⟨u15, rfl, E17, hF18, hk⟩
    have X19 := Below.kl X12 E17 (allS g11 all0) (Nat.le_refl _)
    refine wp_seq_k fun K20 hK20 => ?_
    refine wp_seq_k fun K21 hK21 => ?_
    refine wp_region_lit ?_
    refine q_is (l' := [(.slice p_a L_a.length q_a), Ud, (.slice none 0 0), (.slice (some ⟨b3, 0, none⟩) L_a.length L_a.length), (Iv (k : Int)), (.slice p_a L_a.length q_a), (Iv (L_a.length : Int)), (.slice (some ⟨b3, 0, none⟩) L_a.length L_a.length), (Iv (k : Int)), (u15 9), (u15 10), (u15 11), (u15 12), (u15 13), (u15 14), (u15 15), (u15 16), (u15 17), (u15 18), (u15 19), (u15 20), Ud]) rfl rfl (does_move (u := (Iv (k : Int))) (ev rfl)) rfl ?_
    refine q_is (l' := [(.slice p_a L_a.length q_a), Ud, (.slice none 0 0), (.slice (some ⟨b3, 0, none⟩) L_a.length L_a.length), (Iv (k : Int)), (.slice p_a L_a.length q_a), (Iv (L_a.length : Int)), (.slice (some ⟨b3, 0, none⟩) L_a.length L_a.length), (Iv (k : Int)), (.slice p_a L_a.length q_a), (u15 10), (u15 11), (u15 12), (u15 13), (u15 14), (u15 15), (u15 16), (u15 17), (u15 18), (u15 19), (u15 20), Ud]) rfl rfl (does_move (u := (.slice p_a L_a.length q_a)) (ev rfl)) rfl ?_
    refine q_is (l' := [(.slice p_a L_a.length q_a), Ud, (.slice none 0 0), (.slice (some ⟨b3, 0, none⟩) L_a.length L_a.length), (Iv (k : Int)), (.slice p_a L_a.length q_a), (Iv (L_a.length : Int)), (.slice (some ⟨b3, 0, none⟩) L_a.length L_a.length), (Iv (k : Int)), (.slice p_a L_a.length q_a), (Iv (L_a.length : Int)), (u15 11), (u15 12), (u15 13), (u15 14), (u15 15), (u15 16), (u15 17), (u15 18), (u15 19), (u15 20), Ud]) rfl rfl (does_len_slice Try.underlying97 (ev rfl)) rfl ?_
    refine q_is (l' := [(.slice p_a L_a.length q_a), Ud, (.slice none 0 0), (.slice (some ⟨b3, 0, none⟩) L_a.length L_a.length), (Iv (k : Int)), (.slice p_a L_a.length q_a), (Iv (L_a.length : Int)), (.slice (some ⟨b3, 0, none⟩) L_a.length L_a.length), (Iv (k : Int)), (.slice p_a L_a.length q_a), (Iv (L_a.length : Int)), (Bo (icmp .lss (k : Int) (L_a.length : Int))), (u15 12), (u15 13), (u15 14), (u15 15), (u15 16), (u15 17), (u15 18), (u15 19), (u15 20), Ud]) rfl rfl (does_icmp (p := (k : Int)) (q := (L_a.length : Int)) (.inr (.inr (.inl rfl))) (ev rfl) (ev rfl)) rfl ?_
    refine wpList_nil (hK21 _ _ ?_)
    refine wp_cond_split (t := icmp .lss (k : Int) (L_a.length : Int)) (ev rfl) (fun c22 => ?_) (fun c22 => ?_)
    · have c22' := c22
      (try simp only [icmp, Bool.and_eq_true, Bool.or_eq_true, Bool.and_eq_false_iff, Bool.or_eq_false_iff, Bool.not_eq_true', Bool.not_eq_false', decide_eq_true_eq, decide_eq_false_iff_not, beq_iff_eq, bne_iff_ne, beq_eq_false_iff_ne, bne_eq_false_iff_eq] at c22')
      refine wp_skip (hK20 _ _ ?_)
      refine wp_seq_k fun K23 hK23 => ?_
      refine wp_block ?_
      refine wp_region_lit ?_
      refine q_is (l' := [(.slice p_a L_a.length q_a), Ud, (.slice none 0 0), (.slice (some ⟨b3, 0, none⟩) L_a.length L_a.length), (Iv (k : Int)), (.slice p_a L_a.length q_a), (Iv (L_a.length : Int)), (.slice (some ⟨b3, 0, none⟩) L_a.length L_a.length), (Iv (k : Int)), (.slice p_a L_a.length q_a), (Iv (L_a.length : Int)), (Bo (icmp .lss (k : Int) (L_a.length : Int))), (u15 12), (u15 13), (.slice (some ⟨b3, 0, none⟩) L_a.length L_a.length), (u15 15), (u15 16), (u15 17), (u15 18), (u15 19), (u15 20), Ud]) rfl rfl (does_move (u := (.slice (some ⟨b3, 0, none⟩) L_a.length L_a.length)) (ev rfl)) rfl ?_
      refine q_is (l' := [(.slice p_a L_a.length q_a), Ud, (.slice none 0 0), (.slice (some ⟨b3, 0, none⟩) L_a.length L_a.length), (Iv (k : Int)), (.slice p_a L_a.length q_a), (Iv (L_a.length : Int)), (.slice (some ⟨b3, 0, none⟩) L_a.length L_a.length), (Iv (k : Int)), (.slice p_a L_a.length q_a), (Iv (L_a.length : Int)), (Bo (icmp .lss (k : Int) (L_a.length : Int))), (u15 12), (u15 13), (.slice (some ⟨b3, 0, none⟩) L_a.length L_a.length), (Iv (k : Int)), (u15 16), (u15 17), (u15 18), (u15 19), (u15 20), Ud]) rfl rfl (does_move (u := (Iv (k : Int))) (ev rfl)) rfl ?_
      refine q_is (l' := [(.slice p_a L_a.length q_a), Ud, (.slice none 0 0), (.slice (some ⟨b3, 0, none⟩) L_a.length L_a.length), (Iv (k : Int)), (.slice p_a L_a.length q_a), (Iv (L_a.length : Int)), (.slice (some ⟨b3, 0, none⟩) L_a.length L_a.length), (Iv (k : Int)), (.slice p_a L_a.length q_a), (Iv (L_a.length : Int)), (Bo (icmp .lss (k : Int) (L_a.length : Int))), (u15 12), (u15 13), (.slice (some ⟨b3, 0, none⟩) L_a.length L_a.length), (Iv (k : Int)), (.slice p_a L_a.length q_a), (u15 17), (u15 18), (u15 19), (u15 20), Ud]) rfl rfl (does_move (u := (.slice p_a L_a.length q_a)) (ev rfl)) rfl ?_
      refine q_is (l' := [(.slice p_a L_a.length q_a), Ud, (.slice none 0 0), (.slice (some ⟨b3, 0, none⟩) L_a.length L_a.length), (Iv (k : Int)), (.slice p_a L_a.length q_a), (Iv (L_a.length : Int)), (.slice (some ⟨b3, 0, none⟩) L_a.length L_a.length), (Iv (k : Int)), (.slice p_a L_a.length q_a), (Iv (L_a.length : Int)), (Bo (icmp .lss (k : Int) (L_a.length : Int))), (u15 12), (u15 13), (.slice (some ⟨b3, 0, none⟩) L_a.length L_a.length), (Iv (k : Int)), (.slice p_a L_a.length q_a), (Iv (k : Int)), (u15 18), (u15 19), (u15 20), Ud]) rfl rfl (does_move (u := (Iv (k : Int))) (ev rfl)) rfl ?_
      obtain ⟨el1, hel1⟩ : ∃ e, L_a[k]? = some e := ⟨_, List.getElem?_eq_getElem (by omega)⟩
      refine seqd rfl rfl (does_indexSl (R := RF) (i := (k : Int)) (xs := L_a) (e := el1) Try.underlying97 Try.sizeOf38 (ev rfl) (ev rfl) (Sl.ext hv_a RF.mono X19) (by omega) hel1) ?_; rintro _ w16 ⟨b24, o25, _, rfl, hc27, ⟨r28, rfl, h29⟩, rfl⟩
      show wpList _ _ _ _ (fr [(.slice p_a L_a.length q_a), Ud, (.slice none 0 0), (.slice (some ⟨b3, 0, none⟩) L_a.length L_a.length), (Iv (k : Int)), (.slice p_a L_a.length q_a), (Iv (L_a.length : Int)), (.slice (some ⟨b3, 0, none⟩) L_a.length L_a.length), (Iv (k : Int)), (.slice p_a L_a.length q_a), (Iv (L_a.length : Int)), (Bo (icmp .lss (k : Int) (L_a.length : Int))), (u15 12), (u15 13), (.slice (some ⟨b3, 0, none⟩) L_a.length L_a.length), (Iv (k : Int)), (.slice p_a L_a.length q_a), (Iv (k : Int)), (Pt b24 o25), (u15 19), (u15 20), Ud]) _
      refine q_is (l' := [(.slice p_a L_a.length q_a), Ud, (.slice none 0 0), (.slice (some ⟨b3, 0, none⟩) L_a.length L_a.length), (Iv (k : Int)), (.slice p_a L_a.length q_a), (Iv (L_a.length : Int)), (.slice (some ⟨b3, 0, none⟩) L_a.length L_a.length), (Iv (k : Int)), (.slice p_a L_a.length q_a), (Iv (L_a.length : Int)), (Bo (icmp .lss (k : Int) (L_a.length : Int))), (u15 12), (u15 13), (.slice (some ⟨b3, 0, none⟩) L_a.length L_a.length), (Iv (k : Int)), (.slice p_a L_a.length q_a), (Iv (k : Int)), (Pt b24 o25), (Fl r28), (u15 20), Ud]) rfl rfl (does_load (u := (Fl r28)) (ev rfl) Try.isAgg38 (Cells.at hc27 0 rfl)) rfl ?_
      refine q_is (l' := [(.slice p_a L_a.length q_a), Ud, (.slice none 0 0), (.slice (some ⟨b3, 0, none⟩) L_a.length L_a.length), (Iv (k : Int)), (.slice p_a L_a.length q_a), (Iv (L_a.length : Int)), (.slice (some ⟨b3, 0, none⟩) L_a.length L_a.length), (Iv (k : Int)), (.slice p_a L_a.length q_a), (Iv (L_a.length : Int)), (Bo (icmp .lss (k : Int) (L_a.length : Int))), (u15 12), (u15 13), (.slice (some ⟨b3, 0, none⟩) L_a.length L_a.length), (Iv (k : Int)), (.slice p_a L_a.length q_a), (Iv (k : Int)), (Pt b24 o25), (Fl r28), (Pt b3 (k * 1)), Ud]) rfl rfl (does_indexOwn (b := b3) (n := L_a.length) (i := (k : Int)) Try.underlying97 Try.sizeOf38 (ev rfl) (ev rfl) (by omega) (by omega)) rfl ?_
      refine seqn rfl rfl (does_fill (R := RF) (k := 1) (n := L_a.length) (j := k) (xs := L_a) (u := (Fl r28)) (e := el1) (ev rfl) (ev rfl) Try.sizeOf38 rfl rfl hF18 (by omega) hel1 (fun _ => ⟨_, rfl, h29⟩) (fun _ _ _ _ h => h)) ?_; rintro _ w32 ⟨rfl, W30, hF31⟩
      have X33 := Below.wr X19 W30 g11
      refine wpList_nil (hK23 _ _ ?_)
      refine wp_region_lit ?_
      refine q_is (l' := [(.slice p_a L_a.length q_a), Ud, (.slice none 0 0), (.slice (some ⟨b3, 0, none⟩) L_a.length L_a.length), (Iv (k : Int)), (.slice p_a L_a.length q_a), (Iv (L_a.length : Int)), (.slice (some ⟨b3, 0, none⟩) L_a.length L_a.length), (Iv (k : Int)), (.slice p_a L_a.length q_a), (Iv (L_a.length : Int)), (Bo (icmp .lss (k : Int) (L_a.length : Int))), (Iv (k : Int)), (u15 13), (.slice (some ⟨b3, 0, none⟩) L_a.length L_a.length), (Iv (k : Int)), (.slice p_a L_a.length q_a), (Iv (k : Int)), (Pt b24 o25), (Fl r28), (Pt b3 (k * 1)), Ud]) rfl rfl (does_move (u := (Iv (k : Int))) (ev rfl)) rfl ?_
      refine q_is (l' := [(.slice p_a L_a.length q_a), Ud, (.slice none 0 0), (.slice (some ⟨b3, 0, none⟩) L_a.length L_a.length), (Iv (k : Int)), (.slice p_a L_a.length q_a), (Iv (L_a.length : Int)), (.slice (some ⟨b3, 0, none⟩) L_a.length L_a.length), (Iv (k : Int)), (.slice p_a L_a.length q_a), (Iv (L_a.length : Int)), (Bo (icmp .lss (k : Int) (L_a.length : Int))), (Iv (k : Int)), (Iv ((k : Int) + 1)), (.slice (some ⟨b3, 0, none⟩) L_a.length L_a.length), (Iv (k : Int)), (.slice p_a L_a.length q_a), (Iv (k : Int)), (Pt b24 o25), (Fl r28), (Pt b3 (k * 1)), Ud]) rfl rfl (does_iarith (p := (k : Int)) (q := 1) (r := (k : Int) + 1) (ev rfl) (ev rfl) (.inl ⟨rfl, (in_i64 (by omega) (by omega)).symm⟩)) rfl ?_
      refine q_is (l' := [(.slice p_a L_a.length q_a), Ud, (.slice none 0 0), (.slice (some ⟨b3, 0, none⟩) L_a.length L_a.length), (Iv ((k : Int) + 1)), (.slice p_a L_a.length q_a), (Iv (L_a.length : Int)), (.slice (some ⟨b3, 0, none⟩) L_a.length L_a.length), (Iv (k : Int)), (.slice p_a L_a.length q_a), (Iv (L_a.length : Int)), (Bo (icmp .lss (k : Int) (L_a.length : Int))), (Iv (k : Int)), (Iv ((k : Int) + 1)), (.slice (some ⟨b3, 0, none⟩) L_a.length L_a.length), (Iv (k : Int)), (.slice p_a L_a.length q_a), (Iv (k : Int)), (Pt b24 o25), (Fl r28), (Pt b3 (k * 1)), Ud]) rfl rfl (does_assign (u := (Iv ((k : Int) + 1))) (ev rfl)) rfl ?_
      refine wpList_nil ?_
      refine ⟨k + 1, ⟨fun t => (([(.slice p_a L_a.length q_a), Ud, (.slice none 0 0), (.slice (some ⟨b3, 0, none⟩) L_a.length L_a.length), (Iv ((k : Int) + 1)), (.slice p_a L_a.length q_a), (Iv (L_a.length : Int)), (.slice (some ⟨b3, 0, none⟩) L_a.length L_a.length), (Iv (k : Int)), (.slice p_a L_a.length q_a), (Iv (L_a.length : Int)), (Bo (icmp .lss (k : Int) (L_a.length : Int))), (Iv (k : Int)), (Iv ((k : Int) + 1)), (.slice (some ⟨b3, 0, none⟩) L_a.length L_a.length), (Iv (k : Int)), (.slice p_a L_a.length q_a), (Iv (k : Int)), (Pt b24 o25), (Fl r28), (Pt b3 (k * 1)), Ud] : List Value)[t]?).getD undef, ?_, (KpL.more E17 (KpL.of_wr W30) (allS (.inl (by simp)) all0)), hF31, ?_⟩, ?_⟩
      · first | rfl | (simp only [Nat.cast_add, Nat.cast_one, Int.natCast_add, Int.natCast_one]; rfl)
      · omega
      · omega
    have c22' := c22
    (try simp only [icmp, Bool.and_eq_true, Bool.or_eq_true, Bool.and_eq_false_iff, Bool.or_eq_false_iff, Bool.not_eq_true', Bool.not_eq_false', decide_eq_true_eq, decide_eq_false_iff_not, beq_iff_eq, bne_iff_ne, beq_eq_false_iff_ne, bne_eq_false_iff_eq] at c22')
    refine wp_exit ?_
    refine hK13 _ _ ?_
    refine wp_seq_k fun K34 hK34 => ?_
    refine wp_region_lit ?_
    refine q_is (l' := [(.slice p_a L_a.length q_a), Ud, (.slice none 0 0), (.slice (some ⟨b3, 0, none⟩) L_a.length L_a.length), (Iv (k : Int)), (.slice p_a L_a.length q_a), (Iv (L_a.length : Int)), (.slice (some ⟨b3, 0, none⟩) L_a.length L_a.length), (Iv (k : Int)), (.slice p_a L_a.length q_a), (Iv (L_a.length : Int)), (Bo (icmp .lss (k : Int) (L_a.length : Int))), (u15 12), (u15 13), (u15 14), (u15 15), (u15 16), (u15 17), (u15 18), (u15 19), (u15 20), (.slice (some ⟨b3, 0, none⟩) L_a.length L_a.length)]) rfl rfl (does_move (u := (.slice (some ⟨b3, 0, none⟩) L_a.length L_a.length)) (ev rfl)) rfl ?_
    refine q_is (l' := [(.slice p_a L_a.length q_a), Ud, (.slice (some ⟨b3, 0, none⟩) L_a.length L_a.length), (.slice (some ⟨b3, 0, none⟩) L_a.length L_a.length), (Iv (k : Int)), (.slice p_a L_a.length q_a), (Iv (L_a.length : Int)), (.slice (some ⟨b3, 0, none⟩) L_a.length L_a.length), (Iv (k : Int)), (.slice p_a L_a.length q_a), (Iv (L_a.length : Int)), (Bo (icmp .lss (k : Int) (L_a.length : Int))), (u15 12), (u15 13), (u15 14), (u15 15), (u15 16), (u15 17), (u15 18), (u15 19), (u15 20), (.slice (some ⟨b3, 0, none⟩) L_a.length L_a.length)]) rfl rfl (does_assign (u := (.slice (some ⟨b3, 0, none⟩) L_a.length L_a.length)) (ev rfl)) rfl ?_
    refine wpList_nil (hK34 _ _ ?_)
    refine wp_ret ?_
    refine ret_val (v := (.slice (some ⟨b3, 0, none⟩) L_a.length L_a.length)) (res_T rfl (slot rfl)) X19 ?_
    exact ⟨(.slice (some ⟨b3, 0, none⟩) L_a.length L_a.length), [b3], rfl, (Fill.hang hF18 RF.flat g11 (by omega) rfl (by omega) (by decide)), (Fill.wl hF18 g11)⟩

/- laws.toNode -/
theorem c_laws_toNode (a : List Value) (A_a : NodeT) (w : World) (hv_a : RNodeT w A_a a) (hsz : A_a.nums.length ≤ 1048576) : Gives Try.prog 54 #[(.agg a.toArray)] w (fun v w' => ∃ cs_1 : List Value, v = (.agg cs_1.toArray) ∧ Hang w.heap.size w' (fun u => RNodeT u A_a cs_1)) := by
  obtain ⟨y1, rfl, h2⟩ := hv_a
  have hs5 := h2; have hs5l := Sl.len h2; obtain ⟨p3, q4, rfl⟩ := Sl.shape h2
  refine enter [(.agg #[(Iv A_a.kind), (Iv A_a.a), (Iv A_a.b), (.slice p3 A_a.nums.length q4)]), Ud, Ud, Ud, Ud, Ud, Ud, Ud, Ud, Ud, Ud, Ud, Ud, Ud, Ud, Ud, Ud, Ud] Try.func54 rfl Try.ntmps54 rfl ?_
  refine wp_seq_k fun K6 hK6 => ?_
  refine wp_region_lit ?_
  refine seqd rfl rfl (does_box (u := (.agg #[(Iv A_a.kind), (Iv A_a.a), (Iv A_a.b), (.slice p3 A_a.nums.length q4)])) (ev rfl)) ?_; rintro _ w11 ⟨b7, rfl, hb8, hB9, E10⟩
  have g12 : w.heap.size ≤ b7 := Nat.le_trans (Below.size (Ext.refl w)) hb8
  change Blk _ _ [(Iv A_a.kind), (Iv A_a.a), (Iv A_a.b), (.slice p3 A_a.nums.length q4)] at hB9
  have X13 := Ext.gr (Ext.refl w) E10
  show wpList _ _ _ _ (fr [(.agg #[(Iv A_a.kind), (Iv A_a.a), (Iv A_a.b), (.slice p3 A_a.nums.length q4)]), (Pt b7 0), Ud, Ud, Ud, Ud, Ud, Ud, Ud, Ud, Ud, Ud, Ud, Ud, Ud, Ud, Ud, Ud]) _
  refine seqd rfl rfl (does_alloc z102) ?_; rintro _ w18 ⟨b14, rfl, hb15, hB16, E17⟩
  have n19 : b7 < b14 := Nat.lt_of_lt_of_le (Blk.lt hB9) hb15
  have g20 : w.heap.size ≤ b14 := Nat.le_trans (Below.size X13) hb15
  change Blk _ _ [(Iv 0), (Iv 0), (Iv 0), (.slice none 0 0)] at hB16
  have X21 := Ext.gr X13 E17
  show wpList _ _ _ _ (fr [(.agg #[(Iv A_a.kind), (Iv A_a.a), (Iv A_a.b), (.slice p3 A_a.nums.length q4)]), (Pt b7 0), (Pt b14 0), Ud, Ud, Ud, Ud, Ud, Ud, Ud, Ud, Ud, Ud, Ud, Ud, Ud, Ud, Ud]) _
  refine wpList_nil (hK6 _ _ ?_)
  refine wp_seq_k fun K22 hK22 => ?_
  refine wp_region_lit ?_
  refine seqd rfl rfl (does_alloc z102) ?_; rintro _ w27 ⟨b23, rfl, hb24, hB25, E26⟩
  have n28 : b7 < b23 := Nat.lt_of_lt_of_le (Blk.lt (hB9.ext E17)) hb24
  have n29 : b14 < b23 := Nat.lt_of_lt_of_le (Blk.lt hB16) hb24
  have g30 : w.heap.size ≤ b23 := Nat.le_trans (Below.size X21) hb24
  change Blk _ _ [(Iv 0), (Iv 0), (Iv 0), (.slice none 0 0)] at hB25
  have X31 := Ext.gr X21 E26
  show wpList _ _ _ _ (fr [(.agg #[(Iv A_a.kind), (Iv A_a.a), (Iv A_a.b), (.slice p3 A_a.nums.length q4)]), (Pt b7 0), (Pt b14 0), (Pt b23 0), Ud, Ud, Ud, Ud, Ud, Ud, Ud, Ud, Ud, Ud, Ud, Ud, Ud, Ud]) _
  refine wpList_nil (hK22 _ _ ?_)
  refine wp_seq_k fun K32 hK32 => ?_
  refine wp_region_lit ?_
  refine q_is (l' := [(.agg #[(Iv A_a.kind), (Iv A_a.a), (Iv A_a.b), (.slice p3 A_a.nums.length q4)]), (Pt b7 0), (Pt b14 0), (Pt b23 0), (Pt b7 0), Ud, Ud, Ud, Ud, Ud, Ud, Ud, Ud, Ud, Ud, Ud, Ud, Ud]) rfl rfl (does_fieldAddr (ev rfl) fa99_0) rfl ?_
  refine q_is (l' := [(.agg #[(Iv A_a.kind), (Iv A_a.a), (Iv A_a.b), (.slice p3 A_a.nums.length q4)]), (Pt b7 0), (Pt b14 0), (Pt b23 0), (Pt b7 0), (Iv A_a.kind), Ud, Ud, Ud, Ud, Ud, Ud, Ud, Ud, Ud, Ud, Ud, Ud]) rfl rfl (does_load (u := (Iv A_a.kind)) (ev rfl) Try.isAgg2 (Cells.at (Blk.cells ((hB9.ext E17).ext E26)) 0 rfl)) rfl ?_
  refine q_is (l' := [(.agg #[(Iv A_a.kind), (Iv A_a.a), (Iv A_a.b), (.slice p3 A_a.nums.length q4)]), (Pt b7 0), (Pt b14 0), (Pt b23 0), (Pt b7 0), (Iv A_a.kind), (Pt b23 0), Ud, Ud, Ud, Ud, Ud, Ud, Ud, Ud, Ud, Ud, Ud]) rfl rfl (does_fieldAddr (ev rfl) fa102_0) rfl ?_
  refine seqn rfl rfl (does_store (n := 1) (cs := [(Iv 0), (Iv 0), (Iv 0), (.slice none 0 0)]) (u := (Iv A_a.kind)) (ev rfl) (ev rfl) Try.sizeOf2 rfl hB25 (Nat.le_of_ble_eq_true rfl) rfl) ?_; rintro _ w35 ⟨rfl, W33, hB34⟩
  change Blk _ _ [(Iv A_a.kind), (Iv 0), (Iv 0), (.slice none 0 0)] at hB34
  have X36 := Below.wr X31 W33 g30
  refine wpList_nil (hK32 _ _ ?_)
  refine wp_seq_k fun K37 hK37 => ?_
  refine wp_region_lit ?_
  refine q_is (l' := [(.agg #[(Iv A_a.kind), (Iv A_a.a), (Iv A_a.b), (.slice p3 A_a.nums.length q4)]), (Pt b7 0), (Pt b14 0), (Pt b23 0), (Pt b7 0), (Iv A_a.kind), (Pt b23 0), (Pt b7 1), Ud, Ud, Ud, Ud, Ud, Ud, Ud, Ud, Ud, Ud]) rfl rfl (does_fieldAddr (ev rfl) fa99_1) rfl ?_
  refine q_is (l' := [(.agg #[(Iv A_a.kind), (Iv A_a.a), (Iv A_a.b), (.slice p3 A_a.nums.length q4)]), (Pt b7 0), (Pt b14 0), (Pt b23 0), (Pt b7 0), (Iv A_a.kind), (Pt b23 0), (Pt b7 1), (Iv A_a.a), Ud, Ud, Ud, Ud, Ud, Ud, Ud, Ud, Ud]) rfl rfl (does_load (u := (Iv A_a.a)) (ev rfl) Try.isAgg2 (Cells.at (Blk.cells (((hB9.ext E17).ext E26).wr W33 (Nat.ne_of_lt n28))) 1 rfl)) rfl ?_
  refine q_is (l' := [(.agg #[(Iv A_a.kind), (Iv A_a.a), (Iv A_a.b), (.slice p3 A_a.nums.length q4)]), (Pt b7 0), (Pt b14 0), (Pt b23 0), (Pt b7 0), (Iv A_a.kind), (Pt b23 0), (Pt b7 1), (Iv A_a.a), (Pt b23 1), Ud, Ud, Ud, Ud, Ud, Ud, Ud, Ud]) rfl rfl (does_fieldAddr (ev rfl) fa102_1) rfl ?_
  refine seqn rfl rfl (does_store (n := 1) (cs := [(Iv A_a.kind), (Iv 0), (Iv 0), (.slice none 0 0)]) (u := (Iv A_a.a)) (ev rfl) (ev rfl) Try.sizeOf2 rfl hB34 (Nat.le_of_ble_eq_true rfl) rfl) ?_; rintro _ w40 ⟨rfl, W38, hB39⟩
  change Blk _ _ [(Iv A_a.kind), (Iv A_a.a), (Iv 0), (.slice none 0 0)] at hB39
  have X41 := Below.wr X36 W38 g30
  refine wpList_nil (hK37 _ _ ?_)
  refine wp_seq_k fun K42 hK42 => ?_
  refine wp_region_lit ?_
  refine q_is (l' := [(.agg #[(Iv A_a.kind), (Iv A_a.a), (Iv A_a.b), (.slice p3 A_a.nums.length q4)]), (Pt b7 0), (Pt b14 0), (Pt b23 0), (Pt b7 0), (Iv A_a.kind), (Pt b23 0), (Pt b7 1), (Iv A_a.a), (Pt b23 1), (Pt b7 2), Ud, Ud, Ud, Ud, Ud, Ud, Ud]) rfl rfl (does_fieldAddr (ev rfl) fa99_2) rfl ?_
  refine q_is (l' := [(.agg #[(Iv A_a.kind), (Iv A_a.a), (Iv A_a.b), (.slice p3 A_a.nums.length q4)]), (Pt b7 0), (Pt b14 0), (Pt b23 0), (Pt b7 0), (Iv A_a.kind), (Pt b23 0), (Pt b7 1), (Iv A_a.a), (Pt b23 1), (Pt b7 2), (Iv A_a.b), Ud, Ud, Ud, Ud, Ud, Ud]) rfl rfl (does_load (u := (Iv A_a.b)) (ev rfl) Try.isAgg2 (Cells.at (Blk.cells ((((hB9.ext E17).ext E26).wr W33 (Nat.ne_of_lt n28)).wr W38 (Nat.ne_of_lt n28))) 2 rfl)) rfl ?_
  refine q_is (l' := [(.agg #[(Iv A_a.kind), (Iv A_a.a), (Iv A_a.b), (.slice p3 A_a.nums.length q4)]), (Pt b7 0), (Pt b14 0), (Pt b23 0), (Pt b7 0), (Iv A_a.kind), (Pt b23 0), (Pt b7 1), (Iv A_a.a), (Pt b23 1), (Pt b7 2), (Iv A_a.b), (Pt b23 2), Ud, Ud, Ud, Ud, Ud]) rfl rfl (does_fieldAddr (ev rfl) fa102_2) rfl ?_
  refine seqn rfl rfl (does_store (n := 1) (cs := [(Iv A_a.kind), (Iv A_a.a), (Iv 0), (.slice none 0 0)]) (u := (Iv A_a.b)) (ev rfl) (ev rfl) Try.sizeOf2 rfl hB39 (Nat.le_of_ble_eq_true rfl) rfl) ?_; rintro _ w45 ⟨rfl, W43, hB44⟩
  change Blk _ _ [(Iv A_a.kind), (Iv A_a.a), (Iv A_a.b), (.slice none 0 0)] at hB44
  have X46 := Below.wr X41 W43 g30
  refine wpList_nil (hK42 _ _ ?_)
  refine wp_seq_k fun K47 hK47 => ?_
  refine wp_region_lit ?_
  refine q_is (l' := [(.agg #[(Iv A_a.kind), (Iv A_a.a), (Iv A_a.b), (.slice p3 A_a.nums.length q4)]), (Pt b7 0), (Pt b14 0), (Pt b23 0), (Pt b7 0), (Iv A_a.kind), (Pt b23 0), (Pt b7 1), (Iv A_a.a), (Pt b23 1), (Pt b7 2), (Iv A_a.b), (Pt b23 2), (Pt b7 3), Ud, Ud, Ud, Ud]) rfl rfl (does_fieldAddr (ev rfl) fa99_3) rfl ?_
  refine q_is (l' := [(.agg #[(Iv A_a.kind), (Iv A_a.a), (Iv A_a.b), (.slice p3 A_a.nums.length q4)]), (Pt b7 0), (Pt b14 0), (Pt b23 0), (Pt b7 0), (Iv A_a.kind), (Pt b23 0), (Pt b7 1), (Iv A_a.a), (Pt b23 1), (Pt b7 2), (Iv A_a.b), (Pt b23 2), (Pt b7 3), (.slice p3 A_a.nums.length q4), Ud, Ud, Ud]) rfl rfl (does_load (u := (.slice p3 A_a.nums.length q4)) (ev rfl) Try.isAgg97 (Cells.at (Blk.cells (((((hB9.ext E17).ext E26).wr W33 (Nat.ne_of_lt n28)).wr W38 (Nat.ne_of_lt n28)).wr W43 (Nat.ne_of_lt n28))) 3 rfl)) rfl ?_
  refine seqd rfl rfl (does_call (args := #[(.slice p3 A_a.nums.length q4)]) cal84 (evs rfl) (c_laws_toFloat32S (.slice p3 A_a.nums.length q4) A_a.nums _ (Sl.ext hs5 RF.mono X46) (by omega))) ?_; rintro _ w49 ⟨E48, ⟨y51, Lw52, rfl, hh50, hw53⟩⟩
  have X54 := Ext.gr X46 E48
  have n55 : b7 < w45.heap.size := Blk.lt (((((hB9.ext E17).ext E26).wr W33 (Nat.ne_of_lt n28)).wr W38 (Nat.ne_of_lt n28)).wr W43 (Nat.ne_of_lt n28))
  have n56 : b14 < w45.heap.size := Blk.lt ((((hB16.ext E26).wr W33 (Nat.ne_of_lt n29)).wr W38 (Nat.ne_of_lt n29)).wr W43 (Nat.ne_of_lt n29))
  have n57 : b23 < w45.heap.size := Blk.lt hB44
  obtain ⟨p58, q59, rfl⟩ := Sl.shape hh50.get
  have hw60 : WL 1 w45.heap.size w49 Lw52 (.slice p58 A_a.nums.length q59) A_a.nums.length := hw53
  show wpList _ _ _ _ (fr [(.agg #[(Iv A_a.kind), (Iv A_a.a), (Iv A_a.b), (.slice p3 A_a.nums.length q4)]), (Pt b7 0), (Pt b14 0), (Pt b23 0), (Pt b7 0), (Iv A_a.kind), (Pt b23 0), (Pt b7 1), (Iv A_a.a), (Pt b23 1), (Pt b7 2), (Iv A_a.b), (Pt b23 2), (Pt b7 3), (.slice p3 A_a.nums.length q4), (.slice p58 A_a.nums.length q59), Ud, Ud]) _
  refine q_is (l' := [(.agg #[(Iv A_a.kind), (Iv A_a.a), (Iv A_a.b), (.slice p3 A_a.nums.length q4)]), (Pt b7 0), (Pt b14 0), (Pt b23 0), (Pt b7 0), (Iv A_a.kind), (Pt b23 0), (Pt b7 1), (Iv A_a.a), (Pt b23 1), (Pt b7 2), (Iv A_a.b), (Pt b23 2), (Pt b7 3), (.slice p3 A_a.nums.length q4), (.slice p58 A_a.nums.length q59), (Pt b23 3), Ud]) rfl rfl (does_fieldAddr (ev rfl) fa102_3) rfl ?_
  refine seqn rfl rfl (does_store (n := 1) (cs := [(Iv A_a.kind), (Iv A_a.a), (Iv A_a.b), (.slice none 0 0)]) (u := (.slice p58 A_a.nums.length q59)) (ev rfl) (ev rfl) Try.sizeOf97 rfl (hB44.ext E48) (Nat.le_of_ble_eq_true rfl) rfl) ?_; rintro _ w63 ⟨rfl, W61, hB62⟩
  change Blk _ _ [(Iv A_a.kind), (Iv A_a.a), (Iv A_a.b), (.slice p58 A_a.nums.length q59)] at hB62
  have X64 := Below.wr X54 W61 g30
  refine wpList_nil (hK47 _ _ ?_)
  refine wp_seq_k fun K65 hK65 => ?_
  refine wp_region_lit ?_
  refine q_is (l' := [(.agg #[(Iv A_a.kind), (Iv A_a.a), (Iv A_a.b), (.slice p3 A_a.nums.length q4)]), (Pt b7 0), (Pt b14 0), (Pt b23 0), (Pt b7 0), (Iv A_a.kind), (Pt b23 0), (Pt b7 1), (Iv A_a.a), (Pt b23 1), (Pt b7 2), (Iv A_a.b), (Pt b23 2), (Pt b7 3), (.slice p3 A_a.nums.length q4), (.slice p58 A_a.nums.length q59), (Pt b23 3), (.agg #[(Iv A_a.kind), (Iv A_a.a), (Iv A_a.b), (.slice p58 A_a.nums.length q59)])]) rfl rfl (does_loadAgg (cs := [(Iv A_a.kind), (Iv A_a.a), (Iv A_a.b), (.slice p58 A_a.nums.length q59)]) (ev rfl) Try.isAgg102 Try.sizeOf102 (Blk.cells hB62) rfl) rfl ?_
  refine seqn rfl rfl (does_store (n := 4) (cs := [(Iv 0), (Iv 0), (Iv 0), (.slice none 0 0)]) (u := (.agg #[(Iv A_a.kind), (Iv A_a.a), (Iv A_a.b), (.slice p58 A_a.nums.length q59)])) (ev rfl) (ev rfl) Try.sizeOf102 rfl ((((((hB16.ext E26).wr W33 (Nat.ne_of_lt n29)).wr W38 (Nat.ne_of_lt n29)).wr W43 (Nat.ne_of_lt n29)).ext E48).wr W61 (Nat.ne_of_lt n29)) (Nat.le_of_ble_eq_true rfl) rfl) ?_; rintro _ w68 ⟨rfl, W66, hB67⟩
  change Blk _ _ [(Iv A_a.kind), (Iv A_a.a), (Iv A_a.b), (.slice p58 A_a.nums.length q59)] at hB67
  have X69 := Below.wr X64 W66 g20
  refine wpList_nil (hK65 _ _ ?_)
  refine wp_ret ?_
  refine ret_val (v := (.agg #[(Iv A_a.kind), (Iv A_a.a), (Iv A_a.b), (.slice p58 A_a.nums.length q59)])) (res_C rfl (slot rfl) (run_loadAgg (cs := [(Iv A_a.kind), (Iv A_a.a), (Iv A_a.b), (.slice p58 A_a.nums.length q59)]) Try.isAgg102 Try.sizeOf102 (Blk.cells hB67) rfl)) X69 ?_
  exact ⟨[(Iv A_a.kind), (Iv A_a.a), (Iv A_a.b), (.slice p58 A_a.nums.length q59)], rfl, fun u hu => ⟨(.slice p58 A_a.nums.length q59), rfl, ((Hang.to hh50 (((Same.refl _ _).wr W61 (.inl n57)).wr W66 (.inl n56))).le (Below.size (Below.wr (Below.wr (Below.wr (Ext.gr (Ext.gr (Ext.gr (Ext.refl _) E10) E17) E26) W33 g30) W38 g30) W43 g30))) u hu⟩⟩

/- laws.toNodeS -/
theorem c_laws_toNodeS (a : Value) (L_a : List NodeT) (w : World) (hv_a : Sl RNodeT 4 w a L_a) (hsz : L_a.length ≤ 1048576) (hall : ∀ s ∈ L_a, s.nums.length ≤ 1048576) : Gives Try.prog 25 #[a] w (fun v w' => ∃ y_1 : Value, v = y_1 ∧ Hang w.heap.size w' (fun u => Sl RNodeT 4 u y_1 L_a)) := by
  have hlen_a := Sl.len hv_a; obtain ⟨p_a, q_a, rfl⟩ := Sl.shape hv_a
  refine enter [(.slice p_a L_a.length q_a), Ud, Ud, Ud, Ud, Ud, Ud, Ud, Ud, Ud, Ud, Ud, Ud, Ud, Ud, Ud, Ud, Ud, Ud, Ud, Ud, Ud, Ud] Try.func25 rfl Try.ntmps25 rfl ?_
  refine wp_seq_k fun K1 hK1 => ?_
  refine wp_region_lit ?_
  refine q_is (l' := [(.slice p_a L_a.length q_a), Ud, (.slice none 0 0), Ud, Ud, Ud, Ud, Ud, Ud, Ud, Ud, Ud, Ud, Ud, Ud, Ud, Ud, Ud, Ud, Ud, Ud, Ud, Ud]) rfl rfl (does_assign (u := (.slice none 0 0)) (ev rfl)) rfl ?_
  refine wpList_nil (hK1 _ _ ?_)
  refine wp_seq_k fun K2 hK2 => ?_
  refine wp_region_lit ?_
  refine q_is (l' := [(.slice p_a L_a.length q_a), Ud, (.slice none 0 0), Ud, Ud, (.slice p_a L_a.length q_a), Ud, Ud, Ud, Ud, Ud, Ud, Ud, Ud, Ud, Ud, Ud, Ud, Ud, Ud, Ud, Ud, Ud]) rfl rfl (does_move (u := (.slice p_a L_a.length q_a)) (ev rfl)) rfl ?_
  refine q_is (l' := [(.slice p_a L_a.length q_a), Ud, (.slice none 0 0), Ud, Ud, (.slice p_a L_a.length q_a), (Iv (L_a.length : Int)), Ud, Ud, Ud, Ud, Ud, Ud, Ud, Ud, Ud, Ud, Ud, Ud, Ud, Ud, Ud, Ud]) rfl rfl (does_len_slice Try.underlying22 (ev rfl)) rfl ?_
  refine seqd rfl rfl (does_makeSlice (n := L_a.length) Try.underlying28 inf102 (ev rfl) (ev rfl) (by omega)) ?_; rintro _ w7 ⟨b3, rfl, hb4, ⟨cs8, hB5, hl9, hz10⟩, E6⟩
  have g11 : w.heap.size ≤ b3 := Nat.le_trans (Below.size (Ext.refl w)) hb4
  have X12 := Ext.gr (Ext.refl w) E6
  show wpList _ _ _ _ (fr [(.slice p_a L_a.length q_a), Ud, (.slice none 0 0), Ud, Ud, (.slice p_a L_a.length q_a), (Iv (L_a.length : Int)), (.slice (some ⟨b3, 0, none⟩) L_a.length L_a.length), Ud, Ud, Ud, Ud, Ud, Ud, Ud, Ud, Ud, Ud, Ud, Ud, Ud, Ud, Ud]) _
  refine q_is (l' := [(.slice p_a L_a.length q_a), Ud, (.slice none 0 0), (.slice (some ⟨b3, 0, none⟩) L_a.length L_a.length), Ud, (.slice p_a L_a.length q_a), (Iv (L_a.length : Int)), (.slice (some ⟨b3, 0, none⟩) L_a.length L_a.length), Ud, Ud, Ud, Ud, Ud, Ud, Ud, Ud, Ud, Ud, Ud, Ud, Ud, Ud, Ud]) rfl rfl (does_assign (u := (.slice (some ⟨b3, 0, none⟩) L_a.length L_a.length)) (ev rfl)) rfl ?_
  refine wpList_nil (hK2 _ _ ?_)
  refine wp_seq_k fun K13 hK13 => ?_
  refine wp_seq_k fun K14 hK14 => ?_
  refine wp_region_lit ?_
  refine q_is (l' := [(.slice p_a L_a.length q_a), Ud, (.slice none 0 0), (.slice (some ⟨b3, 0, none⟩) L_a.length L_a.length), (Iv 0), (.slice p_a L_a.length q_a), (Iv (L_a.length : Int)), (.slice (some ⟨b3, 0, none⟩) L_a.length L_a.length), Ud, Ud, Ud, Ud, Ud, Ud, Ud, Ud, Ud, Ud, Ud, Ud, Ud, Ud, Ud]) rfl rfl (does_assign (u := (Iv 0)) (ev rfl)) rfl ?_
  refine wpList_nil (hK14 _ _ ?_)
  refine wp_block ?_
  have hF0 : FillH RNodeT 4 w7 b3 L_a.length L_a 0 := FillH.zero hB5 hl9
  refine loop_ghost (σ := Nat) (fun k a w' => ∃ u15 : Nat → Value, a = fr [(.slice p_a L_a.length q_a), Ud, (.slice none 0 0), (.slice (some ⟨b3, 0, none⟩) L_a.length L_a.length), (Iv (k : Int)), (.slice p_a L_a.length q_a), (Iv (L_a.length : Int)), (.slice (some ⟨b3, 0, none⟩) L_a.length L_a.length), (u15 8), (u15 9), (u15 10), (u15 11), (u15 12), (u15 13), (u15 14), (u15 15), (u15 16), (u15 17), (u15 18), (u15 19), (u15 20), (u15 21), Ud] ∧ KpL [b3] w7 w' ∧ FillH RNodeT 4 w' b3 L_a.length L_a k ∧ (k ≤ L_a.length)) (fun k => L_a.length - k) 0 ?_ ?_
  · refine ⟨fun t => (([(.slice p_a L_a.length q_a), Ud, (.slice none 0 0), (.slice (some ⟨b3, 0, none⟩) L_a.length L_a.length), (Iv 0), (.slice p_a L_a.length q_a), (Iv (L_a.length : Int)), (.slice (some ⟨b3, 0, none⟩) L_a.length L_a.length), Ud, Ud, Ud, Ud, Ud, Ud, Ud, Ud, Ud, Ud, Ud, Ud, Ud, Ud, Ud] : List Value)[t]?).getD undef, rfl, KpL.refl _ _, hF0, ?_⟩
    exact Nat.zero_le _
  · rintro k a w16 ⟨u15, rfl, E17, hF18, hk⟩
    have X19 := Below.kl X12 E17 (allS g11 all0) (Nat.le_refl _)
    refine wp_seq_k fun K20 hK20 => ?_
    refine wp_seq_k fun K21 hK21 => ?_
    refine wp_region_lit ?_
    refine q_is (l' := [(.slice p_a L_a.length q_a), Ud, (.slice none 0 0), (.slice (some ⟨b3, 0, none⟩) L_a.length L_a.length), (Iv (k : Int)), (.slice p_a L_a.length q_a), (Iv (L_a.length : Int)), (.slice (some ⟨b3, 0, none⟩) L_a.length L_a.length), (Iv (k : Int)), (u15 9), (u15 10), (u15 11), (u15 12), (u15 13), (u15 14), (u15 15), (u15 16), (u15 17), (u15 18), (u15 19), (u15 20), (u15 21), Ud]) rfl rfl (does_move (u := (Iv (k : Int))) (ev rfl)) rfl ?_
    refine q_is (l' := [(.slice p_a L_a.length q_a), Ud, (.slice none 0 0), (.slice (some ⟨b3, 0, none⟩) L_a.length L_a.length), (Iv (k : Int)), (.slice p_a L_a.length q_a), (Iv (L_a.length : Int)), (.slice (some ⟨b3, 0, none⟩) L_a.length L_a.length), (Iv (k : Int)), (.slice p_a L_a.length q_a), (u15 10), (u15 11), (u15 12), (u15 13), (u15 14), (u15 15), (u15 16), (u15 17), (u15 18), (u15 19), (u15 20), (u15 21), Ud]) rfl rfl (does_move (u := (.slice p_a L_a.length q_a)) (ev rfl)) rfl ?_
    refine q_is (l' := [(.slice p_a L_a.length q_a), Ud, (.slice none 0 0), (.slice (some ⟨b3, 0, none⟩) L_a.length L_a.length), (Iv (k : Int)), (.slice p_a L_a.length q_a), (Iv (L_a.length : Int)), (.slice (some ⟨b3, 0, none⟩) L_a.length L_a.length), (Iv (k : Int)), (.slice p_a L_a.length q_a), (Iv (L_a.length : Int)), (u15 11), (u15 12), (u15 13), (u15 14), (u15 15), (u15 16), (u15 17), (u15 18), (u15 19), (u15 20), (u15 21), Ud]) rfl rfl (does_len_slice Try.underlying22 (ev rfl)) rfl ?_
    refine q_is (l' := [(.slice p_a L_a.length q_a), Ud, (.slice none 0 0), (.slice (some ⟨b3, 0, none⟩) L_a.length L_a.length), (Iv (k : Int)), (.slice p_a L_a.length q_a), (Iv (L_a.length : Int)), (.slice (some ⟨b3, 0, none⟩) L_a.length L_a.length), (Iv (k : Int)), (.slice p_a L_a.length q_a), (Iv (L_a.length : Int)), (Bo (icmp .lss (k : Int) (L_a.length : Int))), (u15 12), (u15 13), (u15 14), (u15 15), (u15 16), (u15 17), (u15 18), (u15 19), (u15 20), (u15 21), Ud]) rfl rfl (does_icmp (p := (k : Int)) (q := (L_a.length : Int)) (.inr (.inr (.inl rfl))) (ev rfl) (ev rfl)) rfl ?_
    refine wpList_nil (hK21 _ _ ?_)
    refine wp_cond_split (t := icmp .lss (k : Int) (L_a.length : Int)) (ev rfl) (fun c22 => ?_) (fun c22 => ?_)
    · have c22' := c22
      (try simp only [icmp, Bool.and_eq_true, Bool.or_eq_true, Bool.and_eq_false_iff, Bool.or_eq_false_iff, Bool.not_eq_true', Bool.not_eq_false', decide_eq_true_eq, decide_eq_false_iff_not, beq_iff_eq, bne_iff_ne, beq_eq_false_iff_ne, bne_eq_false_iff_eq] at c22')
      refine wp_skip (hK20 _ _ ?_)
      refine wp_seq_k fun K23 hK23 => ?_
      refine wp_block ?_
      refine wp_region_lit ?_
      refine q_is (l' := [(.slice p_a L_a.length q_a), Ud, (.slice none 0 0), (.slice (some ⟨b3, 0, none⟩) L_a.length L_a.length), (Iv (k : Int)), (.slice p_a L_a.length q_a), (Iv (L_a.length : Int)), (.slice (some ⟨b3, 0, none⟩) L_a.length L_a.length), (Iv (k : Int)), (.slice p_a L_a.length q_a), (Iv (L_a.length : Int)), (Bo (icmp .lss (k : Int) (L_a.length : Int))), (u15 12), (u15 13), (.slice (some ⟨b3, 0, none⟩) L_a.length L_a.length), (u15 15), (u15 16), (u15 17), (u15 18), (u15 19), (u15 20), (u15 21), Ud]) rfl rfl (does_move (u := (.slice (some ⟨b3, 0, none⟩) L_a.length L_a.length)) (ev rfl)) rfl ?_
      refine q_is (l' := [(.slice p_a L_a.length q_a), Ud, (.slice none 0 0), (.slice (some ⟨b3, 0, none⟩) L_a.length L_a.length), (Iv (k : Int)), (.slice p_a L_a.length q_a), (Iv (L_a.length : Int)), (.slice (some ⟨b3, 0, none⟩) L_a.length L_a.length), (Iv (k : Int)), (.slice p_a L_a.length q_a), (Iv (L_a.length : Int)), (Bo (icmp .lss (k : Int) (L_a.length : Int))), (u15 12), (u15 13), (.slice (some ⟨b3, 0, none⟩) L_a.length L_a.length), (Iv (k : Int)), (u15 16), (u15 17), (u15 18), (u15 19), (u15 20), (u15 21), Ud]) rfl rfl (does_move (u := (Iv (k : Int))) (ev rfl)) rfl ?_
      refine q_is (l' := [(.slice p_a L_a.length q_a), Ud, (.slice none 0 0), (.slice (some ⟨b3, 0, none⟩) L_a.length L_a.length), (Iv (k : Int)), (.slice p_a L_a.length q_a), (Iv (L_a.length : Int)), (.slice (some ⟨b3, 0, none⟩) L_a.length L_a.length), (Iv (k : Int)), (.slice p_a L_a.length q_a), (Iv (L_a.length : Int)), (Bo (icmp .lss (k : Int) (L_a.length : Int))), (u15 12), (u15 13), (.slice (some ⟨b3, 0, none⟩) L_a.length L_a.length), (Iv (k : Int)), (.slice p_a L_a.length q_a), (u15 17), (u15 18), (u15 19), (u15 20), (u15 21), Ud]) rfl rfl (does_move (u := (.slice p_a L_a.length q_a)) (ev rfl)) rfl ?_
      refine q_is (l' := [(.slice p_a L_a.length q_a), Ud, (.slice none 0 0), (.slice (some ⟨b3, 0, none⟩) L_a.length L_a.length), (Iv (k : Int)), (.slice p_a L_a.length q_a), (Iv (L_a.length : Int)), (.slice (some ⟨b3, 0, none⟩) L_a.length L_a.length), (Iv (k : Int)), (.slice p_a L_a.length q_a), (Iv (L_a.length : Int)), (Bo (icmp .lss (k : Int) (L_a.length : Int))), (u15 12), (u15 13), (.slice (some ⟨b3, 0, none⟩) L_a.length L_a.length), (Iv (k : Int)), (.slice p_a L_a.length q_a), (Iv (k : Int)), (u15 18), (u15 19), (u15 20), (u15 21), Ud]) rfl rfl (does_move (u := (Iv (k : Int))) (ev rfl)) rfl ?_
      obtain ⟨el1, hel1⟩ : ∃ e, L_a[k]? = some e := ⟨_, List.getElem?_eq_getElem (by omega)⟩
      refine seqd rfl rfl (does_indexSl (R := RNodeT) (i := (k : Int)) (xs := L_a) (e := el1) Try.underlying22 Try.sizeOf99 (ev rfl) (ev rfl) (Sl.ext hv_a RNodeT.mono X19) (by omega) hel1) ?_; rintro _ w16 ⟨b24, o25, _, rfl, hc27, ⟨y28, rfl, h29⟩, rfl⟩
      have hs32 := h29; have hs32l := Sl.len h29; obtain ⟨p30, q31, rfl⟩ := Sl.shape h29
      show wpList _ _ _ _ (fr [(.slice p_a L_a.length q_a), Ud, (.slice none 0 0), (.slice (some ⟨b3, 0, none⟩) L_a.length L_a.length), (Iv (k : Int)), (.slice p_a L_a.length q_a), (Iv (L_a.length : Int)), (.slice (some ⟨b3, 0, none⟩) L_a.length L_a.length), (Iv (k : Int)), (.slice p_a L_a.length q_a), (Iv (L_a.length : Int)), (Bo (icmp .lss (k : Int) (L_a.length : Int))), (u15 12), (u15 13), (.slice (some ⟨b3, 0, none⟩) L_a.length L_a.length), (Iv (k : Int)), (.slice p_a L_a.length q_a), (Iv (k : Int)), (Pt b24 o25), (u15 19), (u15 20), (u15 21), Ud]) _
      refine q_is (l' := [(.slice p_a L_a.length q_a), Ud, (.slice none 0 0), (.slice (some ⟨b3, 0, none⟩) L_a.length L_a.length), (Iv (k : Int)), (.slice p_a L_a.length q_a), (Iv (L_a.length : Int)), (.slice (some ⟨b3, 0, none⟩) L_a.length L_a.length), (Iv (k : Int)), (.slice p_a L_a.length q_a), (Iv (L_a.length : Int)), (Bo (icmp .lss (k : Int) (L_a.length : Int))), (u15 12), (u15 13), (.slice (some ⟨b3, 0, none⟩) L_a.length L_a.length), (Iv (k : Int)), (.slice p_a L_a.length q_a), (Iv (k : Int)), (Pt b24 o25), (.agg #[(Iv el1.kind), (Iv el1.a), (Iv el1.b), (.slice p30 el1.nums.length q31)]), (u15 20), (u15 21), Ud]) rfl rfl (does_loadAgg (cs := [(Iv el1.kind), (Iv el1.a), (Iv el1.b), (.slice p30 el1.nums.length q31)]) (ev rfl) Try.isAgg99 Try.sizeOf99 hc27 rfl) rfl ?_
      refine seqd rfl rfl (does_call (args := #[(.agg #[(Iv el1.kind), (Iv el1.a), (Iv el1.b), (.slice p30 el1.nums.length q31)])]) cal54 (evs rfl) (c_laws_toNode [(Iv el1.kind), (Iv el1.a), (Iv el1.b), (.slice p30 el1.nums.length q31)] el1 _ ⟨(.slice p30 el1.nums.length q31), rfl, hs32⟩ (by exact hall _ (List.mem_of_getElem? (by assumption))))) ?_; rintro _ w34 ⟨E33, ⟨cs36, rfl, hh35⟩⟩
      have X37 := Ext.gr X19 E33
      obtain ⟨y39, rfl, h40⟩ := hh35.get
      have h40l := Sl.len h40; obtain ⟨p41, q42, rfl⟩ := Sl.shape h40
      have hh43 : Hang w16.heap.size w34 (fun u => Sl RF 1 u (.slice p41 el1.nums.length q42) el1.nums) := fun u hu => by obtain ⟨_, hq, _⟩ := hh35 u hu; cases hq; assumption
      show wpList _ _ _ _ (fr [(.slice p_a L_a.length q_a), Ud, (.slice none 0 0), (.slice (some ⟨b3, 0, none⟩) L_a.length L_a.length), (Iv (k : Int)), (.slice p_a L_a.length q_a), (Iv (L_a.length : Int)), (.slice (some ⟨b3, 0, none⟩) L_a.length L_a.length), (Iv (k : Int)), (.slice p_a L_a.length q_a), (Iv (L_a.length : Int)), (Bo (icmp .lss (k : Int) (L_a.length : Int))), (u15 12), (u15 13), (.slice (some ⟨b3, 0, none⟩) L_a.length L_a.length), (Iv (k : Int)), (.slice p_a L_a.length q_a), (Iv (k : Int)), (Pt b24 o25), (.agg #[(Iv el1.kind), (Iv el1.a), (Iv el1.b), (.slice p30 el1.nums.length q31)]), (.agg #[(Iv el1.kind), (Iv el1.a), (Iv el1.b), (.slice p41 el1.nums.length q42)]), (u15 21), Ud]) _
      refine q_is (l' := [(.slice p_a L_a.length q_a), Ud, (.slice none 0 0), (.slice (some ⟨b3, 0, none⟩) L_a.length L_a.length), (Iv (k : Int)), (.slice p_a L_a.length q_a), (Iv (L_a.length : Int)), (.slice (some ⟨b3, 0, none⟩) L_a.length L_a.length), (Iv (k : Int)), (.slice p_a L_a.length q_a), (Iv (L_a.length : Int)), (Bo (icmp .lss (k : Int) (L_a.length : Int))), (u15 12), (u15 13), (.slice (some ⟨b3, 0, none⟩) L_a.length L_a.length), (Iv (k : Int)), (.slice p_a L_a.length q_a), (Iv (k : Int)), (Pt b24 o25), (.agg #[(Iv el1.kind), (Iv el1.a), (Iv el1.b), (.slice p30 el1.nums.length q31)]), (.agg #[(Iv el1.kind), (Iv el1.a), (Iv el1.b), (.slice p41 el1.nums.length q42)]), (Pt b3 (k * 4)), Ud]) rfl rfl (does_indexOwn (b := b3) (n := L_a.length) (i := (k : Int)) Try.underlying28 Try.sizeOf102 (ev rfl) (ev rfl) (by omega) (by omega)) rfl ?_
      have hh44 := Hang.le hh43 (Nat.succ_le_of_lt (FillH.lt hF18))
      refine seqn rfl rfl (does_fillH (R := RNodeT) (k := 4) (n := L_a.length) (j := k) (xs := L_a) (u := (.agg #[(Iv el1.kind), (Iv el1.a), (Iv el1.b), (.slice p41 el1.nums.length q42)])) (e := el1) (ev rfl) (ev rfl) Try.sizeOf102 rfl rfl (FillH.ext hF18 RNodeT.mono E33) (by omega) hel1 (fun u hu => ⟨(.slice p41 el1.nums.length q42), rfl, (hh44 u hu)⟩)) ?_; rintro _ w47 ⟨rfl, W45, hF46⟩
      have X48 := Below.wr X37 W45 g11
      refine wpList_nil (hK23 _ _ ?_)
      refine wp_region_lit ?_
      refine q_is (l' := [(.slice p_a L_a.length q_a), Ud, (.slice none 0 0), (.slice (some ⟨b3, 0, none⟩) L_a.length L_a.length), (Iv (k : Int)), (.slice p_a L_a.length q_a), (Iv (L_a.length : Int)), (.slice (some ⟨b3, 0, none⟩) L_a.length L_a.length), (Iv (k : Int)), (.slice p_a L_a.length q_a), (Iv (L_a.length : Int)), (Bo (icmp .lss (k : Int) (L_a.length : Int))), (Iv (k : Int)), (u15 13), (.slice (some ⟨b3, 0, none⟩) L_a.length L_a.length), (Iv (k : Int)), (.slice p_a L_a.length q_a), (Iv (k : Int)), (Pt b24 o25), (.agg #[(Iv el1.kind), (Iv el1.a), (Iv el1.b), (.slice p30 el1.nums.length q31)]), (.agg #[(Iv el1.kind), (Iv el1.a), (Iv el1.b), (.slice p41 el1.nums.length q42)]), (Pt b3 (k * 4)), Ud]) rfl rfl (does_move (u := (Iv (k : Int))) (ev rfl)) rfl ?_
      refine q_is (l' := [(.slice p_a L_a.length q_a), Ud, (.slice none 0 0), (.slice (some ⟨b3, 0, none⟩) L_a.length L_a.length), (Iv (k : Int)), (.slice p_a L_a.length q_a), (Iv (L_a.length : Int)), (.slice (some ⟨b3, 0, none⟩) L_a.length L_a.length), (Iv (k : Int)), (.slice p_a L_a.length q_a), (Iv (L_a.length : Int)), (Bo (icmp .lss (k : Int) (L_a.length : Int))), (Iv (k : Int)), (Iv ((k : Int) + 1)), (.slice (some ⟨b3, 0, none⟩) L_a.length L_a.length), (Iv (k : Int)), (.slice p_a L_a.length q_a), (Iv (k : Int)), (Pt b24 o25), (.agg #[(Iv el1.kind), (Iv el1.a), (Iv el1.b), (.slice p30 el1.nums.length q31)]), (.agg #[(Iv el1.kind), (Iv el1.a), (Iv el1.b), (.slice p41 el1.nums.length q42)]), (Pt b3 (k * 4)), Ud]) rfl rfl (does_iarith (p := (k : Int)) (q := 1) (r := (k : Int) + 1) (ev rfl) (ev rfl) (.inl ⟨rfl, (in_i64 (by omega) (by omega)).symm⟩)) rfl ?_
      refine q_is (l' := [(.slice p_a L_a.length q_a), Ud, (.slice none 0 0), (.slice (some ⟨b3, 0, none⟩) L_a.length L_a.length), (Iv ((k : Int) + 1)), (.slice p_a L_a.length q_a), (Iv (L_a.length : Int)), (.slice (some ⟨b3, 0, none⟩) L_a.length L_a.length), (Iv (k : Int)), (.slice p_a L_a.length q_a), (Iv (L_a.length : Int)), (Bo (icmp .lss (k : Int) (L_a.length : Int))), (Iv (k : Int)), (Iv ((k : Int) + 1)), (.slice (some ⟨b3, 0, none⟩) L_a.length L_a.length), (Iv (k : Int)), (.slice p_a L_a.length q_a), (Iv (k : Int)), (Pt b24 o25), (.agg #[(Iv el1.kind), (Iv el1.a), (Iv el1.b), (.slice p30 el1.nums.length q31)]), (.agg #[(Iv el1.kind), (Iv el1.a), (Iv el1.b), (.slice p41 el1.nums.length q42)]), (Pt b3 (k * 4)), Ud]) rfl rfl (does_assign (u := (Iv ((k : Int) + 1))) (ev rfl)) rfl ?_
      refine wpList_nil ?_
      refine ⟨k + 1, ⟨fun t => (([(.slice p_a L_a.length q_a), Ud, (.slice none 0 0), (.slice (some ⟨b3, 0, none⟩) L_a.length L_a.length), (Iv ((k : Int) + 1)), (.slice p_a L_a.length q_a), (Iv (L_a.length : Int)), (.slice (some ⟨b3, 0, none⟩) L_a.length L_a.length), (Iv (k : Int)), (.slice p_a L_a.length q_a), (Iv (L_a.length : Int)), (Bo (icmp .lss (k : Int) (L_a.length : Int))), (Iv (k : Int)), (Iv ((k : Int) + 1)), (.slice (some ⟨b3, 0, none⟩) L_a.length L_a.length), (Iv (k : Int)), (.slice p_a L_a.length q_a), (Iv (k : Int)), (Pt b24 o25), (.agg #[(Iv el1.kind), (Iv el1.a), (Iv el1.b), (.slice p30 el1.nums.length q31)]), (.agg #[(Iv el1.kind), (Iv el1.a), (Iv el1.b), (.slice p41 el1.nums.length q42)]), (Pt b3 (k * 4)), Ud] : List Value)[t]?).getD undef, ?_, (KpL.more (KpL.ext E17 E33) (KpL.of_wr W45) (allS (.inl (by simp)) all0)), hF46, ?_⟩, ?_⟩
      · first | rfl | (simp only [Nat.cast_add, Nat.cast_one, Int.natCast_add, Int.natCast_one]; rfl)
      · omega
      · omega
    have c22' := c22
    (try simp only [icmp, Bool.and_eq_true, Bool.or_eq_true, Bool.and_eq_false_iff, Bool.or_eq_false_iff, Bool.not_eq_true', Bool.not_eq_false', decide_eq_true_eq, decide_eq_false_iff_not, beq_iff_eq, bne_iff_ne, beq_eq_false_iff_ne, bne_eq_false_iff_eq] at c22')
    refine wp_exit ?_
    refine hK13 _ _ ?_
    refine wp_seq_k fun K49 hK49 => ?_
    refine wp_region_lit ?_
    refine q_is (l' := [(.slice p_a L_a.length q_a), Ud, (.slice none 0 0), (.slice (some ⟨b3, 0, none⟩) L_a.length L_a.length), (Iv (k : Int)), (.slice p_a L_a.length q_a), (Iv (L_a.length : Int)), (.slice (some ⟨b3, 0, none⟩) L_a.length L_a.length), (Iv (k : Int)), (.slice p_a L_a.length q_a), (Iv (L_a.length : Int)), (Bo (icmp .lss (k : Int) (L_a.length : Int))), (u15 12), (u15 13), (u15 14), (u15 15), (u15 16), (u15 17), (u15 18), (u15 19), (u15 20), (u15 21), (.slice (some ⟨b3, 0, none⟩) L_a.length L_a.length)]) rfl rfl (does_move (u := (.slice (some ⟨b3, 0, none⟩) L_a.length L_a.length)) (ev rfl)) rfl ?_
    refine q_is (l' := [(.slice p_a L_a.length q_a), Ud, (.slice (some ⟨b3, 0, none⟩) L_a.length L_a.length), (.slice (some ⟨b3, 0, none⟩) L_a.length L_a.length), (Iv (k : Int)), (.slice p_a L_a.length q_a), (Iv (L_a.length : Int)), (.slice (some ⟨b3, 0, none⟩) L_a.length L_a.length), (Iv (k : Int)), (.slice p_a L_a.length q_a), (Iv (L_a.length : Int)), (Bo (icmp .lss (k : Int) (L_a.length : Int))), (u15 12), (u15 13), (u15 14), (u15 15), (u15 16), (u15 17), (u15 18), (u15 19), (u15 20), (u15 21), (.slice (some ⟨b3, 0, none⟩) L_a.length L_a.length)]) rfl rfl (does_assign (u := (.slice (some ⟨b3, 0, none⟩) L_a.length L_a.length)) (ev rfl)) rfl ?_
    refine wpList_nil (hK49 _ _ ?_)
    refine wp_ret ?_
    refine ret_val (v := (.slice (some ⟨b3, 0, none⟩) L_a.length L_a.length)) (res_T rfl (slot rfl)) X19 ?_
    exact ⟨(.slice (some ⟨b3, 0, none⟩) L_a.length L_a.length), rfl, (FillH.hang hF18 g11 (by omega) rfl (by omega) (by decide))⟩

/- laws.toShape -/
theorem c_laws_toShape (a : List Value) (A_a : ShapeT) (w : World) (hv_a : RShapeT w A_a a) (hst : ndTot A_a.nodes ≤ 1048576) : Gives Try.prog 8 #[(.agg a.toArray)] w (fun v w' => ∃ cs_1 : List Value, v = (.agg cs_1.toArray) ∧ Hang w.heap.size w' (fun u => RShapeT u A_a cs_1)) := by
  obtain ⟨y1, rfl, h2⟩ := hv_a
  have hs5 := h2; have hs5l := Sl.len h2; obtain ⟨p3, q4, rfl⟩ := Sl.shape h2
  have hse := ndTot_each hst
  refine enter [(.agg #[(.slice p3 A_a.nodes.length q4)]), Ud, Ud, Ud, Ud, Ud, Ud, Ud, Ud] Try.func8 rfl Try.ntmps8 rfl ?_
  refine wp_seq_k fun K6 hK6 => ?_
  refine wp_region_lit ?_
  refine seqd rfl rfl (does_box (u := (.agg #[(.slice p3 A_a.nodes.length q4)])) (ev rfl)) ?_; rintro _ w11 ⟨b7, rfl, hb8, hB9, E10⟩
  have g12 : w.heap.size ≤ b7 := Nat.le_trans (Below.size (Ext.refl w)) hb8
  change Blk _ _ [(.slice p3 A_a.nodes.length q4)] at hB9
  have X13 := Ext.gr (Ext.refl w) E10
  show wpList _ _ _ _ (fr [(.agg #[(.slice p3 A_a.nodes.length q4)]), (Pt b7 0), Ud, Ud, Ud, Ud, Ud, Ud, Ud]) _
  refine seqd rfl rfl (does_alloc z30) ?_; rintro _ w18 ⟨b14, rfl, hb15, hB16, E17⟩
  have n19 : b7 < b14 := Nat.lt_of_lt_of_le (Blk.lt hB9) hb15
  have g20 : w.heap.size ≤ b14 := Nat.le_trans (Below.size X13) hb15
  change Blk _ _ [(.slice none 0 0)] at hB16
  have X21 := Ext.gr X13 E17
  show wpList _ _ _ _ (fr [(.agg #[(.slice p3 A_a.nodes.length q4)]), (Pt b7 0), (Pt b14 0), Ud, Ud, Ud, Ud, Ud, Ud]) _
  refine wpList_nil (hK6 _ _ ?_)
  refine wp_seq_k fun K22 hK22 => ?_
  refine wp_region_lit ?_
  refine seqd rfl rfl (does_alloc z30) ?_; rintro _ w27 ⟨b23, rfl, hb24, hB25, E26⟩
  have n28 : b7 < b23 := Nat.lt_of_lt_of_le (Blk.lt (hB9.ext E17)) hb24
  have n29 : b14 < b23 := Nat.lt_of_lt_of_le (Blk.lt hB16) hb24
  have g30 : w.heap.size ≤ b23 := Nat.le_trans (Below.size X21) hb24
  change Blk _ _ [(.slice none 0 0)] at hB25
  have X31 := Ext.gr X21 E26
  show wpList _ _ _ _ (fr [(.agg #[(.slice p3 A_a.nodes.length q4)]), (Pt b7 0), (Pt b14 0), (Pt b23 0), Ud, Ud, Ud, Ud, Ud]) _
  refine wpList_nil (hK22 _ _ ?_)
  refine wp_seq_k fun K32 hK32 => ?_
  refine wp_region_lit ?_
  refine q_is (l' := [(.agg #[(.slice p3 A_a.nodes.length q4)]), (Pt b7 0), (Pt b14 0), (Pt b23 0), (Pt b7 0), Ud, Ud, Ud, Ud]) rfl rfl (does_fieldAddr (ev rfl) fa24_0) rfl ?_
  refine q_is (l' := [(.agg #[(.slice p3 A_a.nodes.length q4)]), (Pt b7 0), (Pt b14 0), (Pt b23 0), (Pt b7 0), (.slice p3 A_a.nodes.length q4), Ud, Ud, Ud]) rfl rfl (does_load (u := (.slice p3 A_a.nodes.length q4)) (ev rfl) Try.isAgg22 (Cells.at (Blk.cells ((hB9.ext E17).ext E26)) 0 rfl)) rfl ?_
  refine seqd rfl rfl (does_call (args := #[(.slice p3 A_a.nodes.length q4)]) cal25 (evs rfl) (c_laws_toNodeS (.slice p3 A_a.nodes.length q4) A_a.nodes _ (Sl.ext hs5 RNodeT.mono X31) (by exact hse.1) (by exact hse.2))) ?_; rintro _ w34 ⟨E33, ⟨y36, rfl, hh35⟩⟩
  have X37 := Ext.gr X31 E33
  have n38 : b7 < w27.heap.size := Blk.lt ((hB9.ext E17).ext E26)
  have n39 : b14 < w27.heap.size := Blk.lt (hB16.ext E26)
  have n40 : b23 < w27.heap.size := Blk.lt hB25
  obtain ⟨p41, q42, rfl⟩ := Sl.shape hh35.get
  show wpList _ _ _ _ (fr [(.agg #[(.slice p3 A_a.nodes.length q4)]), (Pt b7 0), (Pt b14 0), (Pt b23 0), (Pt b7 0), (.slice p3 A_a.nodes.length q4), (.slice p41 A_a.nodes.length q42), Ud, Ud]) _
  refine q_is (l' := [(.agg #[(.slice p3 A_a.nodes.length q4)]), (Pt b7 0), (Pt b14 0), (Pt b23 0), (Pt b7 0), (.slice p3 A_a.nodes.length q4), (.slice p41 A_a.nodes.length q42), (Pt b23 0), Ud]) rfl rfl (does_fieldAddr (ev rfl) fa30_0) rfl ?_
  refine seqn rfl rfl (does_store (n := 1) (cs := [(.slice none 0 0)]) (u := (.slice p41 A_a.nodes.length q42)) (ev rfl) (ev rfl) Try.sizeOf28 rfl (hB25.ext E33) (Nat.le_of_ble_eq_true rfl) rfl) ?_; rintro _ w45 ⟨rfl, W43, hB44⟩
  change Blk _ _ [(.slice p41 A_a.nodes.length q42)] at hB44
  have X46 := Below.wr X37 W43 g30
  refine wpList_nil (hK32 _ _ ?_)
  refine wp_seq_k fun K47 hK47 => ?_
  refine wp_region_lit ?_
  refine q_is (l' := [(.agg #[(.slice p3 A_a.nodes.length q4)]), (Pt b7 0), (Pt b14 0), (Pt b23 0), (Pt b7 0), (.slice p3 A_a.nodes.length q4), (.slice p41 A_a.nodes.length q42), (Pt b23 0), (.agg #[(.slice p41 A_a.nodes.length q42)])]) rfl rfl (does_loadAgg (cs := [(.slice p41 A_a.nodes.length q42)]) (ev rfl) Try.isAgg30 Try.sizeOf30 (Blk.cells hB44) rfl) rfl ?_
  refine seqn rfl rfl (does_store (n := 1) (cs := [(.slice none 0 0)]) (u := (.agg #[(.slice p41 A_a.nodes.length q42)])) (ev rfl) (ev rfl) Try.sizeOf30 rfl (((hB16.ext E26).ext E33).wr W43 (Nat.ne_of_lt n29)) (Nat.le_of_ble_eq_true rfl) rfl) ?_; rintro _ w50 ⟨rfl, W48, hB49⟩
  change Blk _ _ [(.slice p41 A_a.nodes.length q42)] at hB49
  have X51 := Below.wr X46 W48 g20
  refine wpList_nil (hK47 _ _ ?_)
  refine wp_ret ?_
  refine ret_val (v := (.agg #[(.slice p41 A_a.nodes.length q42)])) (res_C rfl (slot rfl) (run_loadAgg (cs := [(.slice p41 A_a.nodes.length q42)]) Try.isAgg30 Try.sizeOf30 (Blk.cells hB49) rfl)) X51 ?_
  exact ⟨[(.slice p41 A_a.nodes.length q42)], rfl, fun u hu => ⟨(.slice p41 A_a.nodes.length q42), rfl, ((Hang.to hh35 (((Same.refl _ _).wr W43 (.inl n40)).wr W48 (.inl n39))).le (Below.size (Ext.gr (Ext.gr (Ext.gr (Ext.refl _) E10) E17) E26))) u hu⟩⟩

/- laws.toVector -/
theorem c_laws_toVector (a : List Value) (A_a : V3) (w : World) (hv_a : RV3 w A_a a) : Gives Try.prog 41 #[(.agg a.toArray)] w (fun v w' => ∃ cs_1 : List Value, v = (.agg cs_1.toArray) ∧ RV3 w A_a cs_1) := by
  obtain ⟨r1, r3, r5, rfl, h2, h4, h6⟩ := hv_a
  refine enter [(.agg #[(Fl r1), (Fl r3), (Fl r5)]), Ud, Ud, Ud, Ud, Ud, Ud, Ud, Ud, Ud, Ud, Ud, Ud, Ud] Try.func41 rfl Try.ntmps41 rfl ?_
  refine wp_seq_k fun K7 hK7 => ?_
  refine wp_region_lit ?_
  refine seqd rfl rfl (does_box (u := (.agg #[(Fl r1), (Fl r3), (Fl r5)])) (ev rfl)) ?_; rintro _ w12 ⟨b8, rfl, hb9, hB10, E11⟩
  have g13 : w.heap.size ≤ b8 := Nat.le_trans (Below.size (Ext.refl w)) hb9
  change Blk _ _ [(Fl r1), (Fl r3), (Fl r5)] at hB10
  have X14 := Ext.gr (Ext.refl w) E11
  show wpList _ _ _ _ (fr [(.agg #[(Fl r1), (Fl r3), (Fl r5)]), (Pt b8 0), Ud, Ud, Ud, Ud, Ud, Ud, Ud, Ud, Ud, Ud, Ud, Ud]) _
  refine seqd rfl rfl (does_alloc z40) ?_; rintro _ w19 ⟨b15, rfl, hb16, hB17, E18⟩
  have n20 : b8 < b15 := Nat.lt_of_lt_of_le (Blk.lt hB10) hb16
  have g21 : w.heap.size ≤ b15 := Nat.le_trans (Below.size X14) hb16
  change Blk _ _ [(Fl 0), (Fl 0), (Fl 0)] at hB17
  have X22 := Ext.gr X14 E18
  show wpList _ _ _ _ (fr [(.agg #[(Fl r1), (Fl r3), (Fl r5)]), (Pt b8 0), (Pt b15 0), Ud, Ud, Ud, Ud, Ud, Ud, Ud, Ud, Ud, Ud, Ud]) _
  refine wpList_nil (hK7 _ _ ?_)
  refine wp_seq_k fun K23 hK23 => ?_
  refine wp_region_lit ?_
  refine seqd rfl rfl (does_alloc z40) ?_; rintro _ w28 ⟨b24, rfl, hb25, hB26, E27⟩
  have n29 : b8 < b24 := Nat.lt_of_lt_of_le (Blk.lt (hB10.ext E18)) hb25
  have n30 : b15 < b24 := Nat.lt_of_lt_of_le (Blk.lt hB17) hb25
  have g31 : w.heap.size ≤ b24 := Nat.le_trans (Below.size X22) hb25
  change Blk _ _ [(Fl 0), (Fl 0), (Fl 0)] at hB26
  have X32 := Ext.gr X22 E27
  show wpList _ _ _ _ (fr [(.agg #[(Fl r1), (Fl r3), (Fl r5)]), (Pt b8 0), (Pt b15 0), (Pt b24 0), Ud, Ud, Ud, Ud, Ud, Ud, Ud, Ud, Ud, Ud]) _
  refine wpList_nil (hK23 _ _ ?_)
  refine wp_seq_k fun K33 hK33 => ?_
  refine wp_region_lit ?_
  refine q_is (l' := [(.agg #[(Fl r1), (Fl r3), (Fl r5)]), (Pt b8 0), (Pt b15 0), (Pt b24 0), (Pt b8 0), Ud, Ud, Ud, Ud, Ud, Ud, Ud, Ud, Ud]) rfl rfl (does_fieldAddr (ev rfl) fa50_0) rfl ?_
  refine q_is (l' := [(.agg #[(Fl r1), (Fl r3), (Fl r5)]), (Pt b8 0), (Pt b15 0), (Pt b24 0), (Pt b8 0), (Fl r1), Ud, Ud, Ud, Ud, Ud, Ud, Ud, Ud]) rfl rfl (does_load (u := (Fl r1)) (ev rfl) Try.isAgg38 (Cells.at (Blk.cells ((hB10.ext E18).ext E27)) 0 rfl)) rfl ?_
  refine q_is (l' := [(.agg #[(Fl r1), (Fl r3), (Fl r5)]), (Pt b8 0), (Pt b15 0), (Pt b24 0), (Pt b8 0), (Fl r1), (Pt b24 0), Ud, Ud, Ud, Ud, Ud, Ud, Ud]) rfl rfl (does_fieldAddr (ev rfl) fa40_0) rfl ?_
  refine seqn rfl rfl (does_store (n := 1) (cs := [(Fl 0), (Fl 0), (Fl 0)]) (u := (Fl r1)) (ev rfl) (ev rfl) Try.sizeOf38 rfl hB26 (Nat.le_of_ble_eq_true rfl) rfl) ?_; rintro _ w36 ⟨rfl, W34, hB35⟩
  change Blk _ _ [(Fl r1), (Fl 0), (Fl 0)] at hB35
  have X37 := Below.wr X32 W34 g31
  refine wpList_nil (hK33 _ _ ?_)
  refine wp_seq_k fun K38 hK38 => ?_
  refine wp_region_lit ?_
  refine q_is (l' := [(.agg #[(Fl r1), (Fl r3), (Fl r5)]), (Pt b8 0), (Pt b15 0), (Pt b24 0), (Pt b8 0), (Fl r1), (Pt b24 0), (Pt b8 1), Ud, Ud, Ud, Ud, Ud, Ud]) rfl rfl (does_fieldAddr (ev rfl) fa50_1) rfl ?_
  refine q_is (l' := [(.agg #[(Fl r1), (Fl r3), (Fl r5)]), (Pt b8 0), (Pt b15 0), (Pt b24 0), (Pt b8 0), (Fl r1), (Pt b24 0), (Pt b8 1), (Fl r3), Ud, Ud, Ud, Ud, Ud]) rfl rfl (does_load (u := (Fl r3)) (ev rfl) Try.isAgg38 (Cells.at (Blk.cells (((hB10.ext E18).ext E27).wr W34 (Nat.ne_of_lt n29))) 1 rfl)) rfl ?_
  refine q_is (l' := [(.agg #[(Fl r1), (Fl r3), (Fl r5)]), (Pt b8 0), (Pt b15 0), (Pt b24 0), (Pt b8 0), (Fl r1), (Pt b24 0), (Pt b8 1), (Fl r3), (Pt b24 1), Ud, Ud, Ud, Ud]) rfl rfl (does_fieldAddr (ev rfl) fa40_1) rfl ?_
  refine seqn rfl rfl (does_store (n := 1) (cs := [(Fl r1), (Fl 0), (Fl 0)]) (u := (Fl r3)) (ev rfl) (ev rfl) Try.sizeOf38 rfl hB35 (Nat.le_of_ble_eq_true rfl) rfl) ?_; rintro _ w41 ⟨rfl, W39, hB40⟩
  change Blk _ _ [(Fl r1), (Fl r3), (Fl 0)] at hB40
  have X42 := Below.wr X37 W39 g31
  refine wpList_nil (hK38 _ _ ?_)
  refine wp_seq_k fun K43 hK43 => ?_
  refine wp_region_lit ?_
  refine q_is (l' := [(.agg #[(Fl r1), (Fl r3), (Fl r5)]), (Pt b8 0), (Pt b15 0), (Pt b24 0), (Pt b8 0), (Fl r1), (Pt b24 0), (Pt b8 1), (Fl r3), (Pt b24 1), (Pt b8 2), Ud, Ud, Ud]) rfl rfl (does_fieldAddr (ev rfl) fa50_2) rfl ?_
  refine q_is (l' := [(.agg #[(Fl r1), (Fl r3), (Fl r5)]), (Pt b8 0), (Pt b15 0), (Pt b24 0), (Pt b8 0), (Fl r1), (Pt b24 0), (Pt b8 1), (Fl r3), (Pt b24 1), (Pt b8 2), (Fl r5), Ud, Ud]) rfl rfl (does_load (u := (Fl r5)) (ev rfl) Try.isAgg38 (Cells.at (Blk.cells ((((hB10.ext E18).ext E27).wr W34 (Nat.ne_of_lt n29)).wr W39 (Nat.ne_of_lt n29))) 2 rfl)) rfl ?_
  refine q_is (l' := [(.agg #[(Fl r1), (Fl r3), (Fl r5)]), (Pt b8 0), (Pt b15 0), (Pt b24 0), (Pt b8 0), (Fl r1), (Pt b24 0), (Pt b8 1), (Fl r3), (Pt b24 1), (Pt b8 2), (Fl r5), (Pt b24 2), Ud]) rfl rfl (does_fieldAddr (ev rfl) fa40_2) rfl ?_
  refine seqn rfl rfl (does_store (n := 1) (cs := [(Fl r1), (Fl r3), (Fl 0)]) (u := (Fl r5)) (ev rfl) (ev rfl) Try.sizeOf38 rfl hB40 (Nat.le_of_ble_eq_true rfl) rfl) ?_; rintro _ w46 ⟨rfl, W44, hB45⟩
  change Blk _ _ [(Fl r1), (Fl r3), (Fl r5)] at hB45
  have X47 := Below.wr X42 W44 g31
  refine wpList_nil (hK43 _ _ ?_)
  refine wp_seq_k fun K48 hK48 => ?_
  refine wp_region_lit ?_
  refine q_is (l' := [(.agg #[(Fl r1), (Fl r3), (Fl r5)]), (Pt b8 0), (Pt b15 0), (Pt b24 0), (Pt b8 0), (Fl r1), (Pt b24 0), (Pt b8 1), (Fl r3), (Pt b24 1), (Pt b8 2), (Fl r5), (Pt b24 2), (.agg #[(Fl r1), (Fl r3), (Fl r5)])]) rfl rfl (does_loadAgg (cs := [(Fl r1), (Fl r3), (Fl r5)]) (ev rfl) Try.isAgg40 Try.sizeOf40 (Blk.cells hB45) rfl) rfl ?_
  refine seqn rfl rfl (does_store (n := 3) (cs := [(Fl 0), (Fl 0), (Fl 0)]) (u := (.agg #[(Fl r1), (Fl r3), (Fl r5)])) (ev rfl) (ev rfl) Try.sizeOf40 rfl ((((hB17.ext E27).wr W34 (Nat.ne_of_lt n30)).wr W39 (Nat.ne_of_lt n30)).wr W44 (Nat.ne_of_lt n30)) (Nat.le_of_ble_eq_true rfl) rfl) ?_; rintro _ w51 ⟨rfl, W49, hB50⟩
  change Blk _ _ [(Fl r1), (Fl r3), (Fl r5)] at hB50
  have X52 := Below.wr X47 W49 g21
  refine wpList_nil (hK48 _ _ ?_)
  refine wp_ret ?_
  refine ret_val (v := (.agg #[(Fl r1), (Fl r3), (Fl r5)])) (res_C rfl (slot rfl) (run_loadAgg (cs := [(Fl r1), (Fl r3), (Fl r5)]) Try.isAgg40 Try.sizeOf40 (Blk.cells hB50) rfl)) X52 ?_
  exact ⟨[(Fl r1), (Fl r3), (Fl r5)], rfl, ⟨r1, r3, r5, rfl, h2, h4, h6⟩⟩

/- laws.toKey -/
theorem c_laws_toKey (a : List Value) (A_a : KeyT) (w : World) (hv_a : RKeyT w A_a a) : Gives Try.prog 68 #[(.agg a.toArray)] w (fun v w' => ∃ cs_1 : List Value, v = (.agg cs_1.toArray) ∧ RKeyT w A_a cs_1) := by
  obtain ⟨r1, r3, r5, rfl, h2, h4, h6⟩ := hv_a
  refine enter [(.agg #[(Iv A_a.at_), (Fl r1), (Fl r3), (Fl r5)]), Ud, Ud, Ud, Ud, Ud, Ud, Ud, Ud, Ud, Ud, Ud] Try.func68 rfl Try.ntmps68 rfl ?_
  refine wp_seq_k fun K7 hK7 => ?_
  refine wp_region_lit ?_
  refine seqd rfl rfl (does_box (u := (.agg #[(Iv A_a.at_), (Fl r1), (Fl r3), (Fl r5)])) (ev rfl)) ?_; rintro _ w12 ⟨b8, rfl, hb9, hB10, E11⟩
  have g13 : w.heap.size ≤ b8 := Nat.le_trans (Below.size (Ext.refl w)) hb9
  change Blk _ _ [(Iv A_a.at_), (Fl r1), (Fl r3), (Fl r5)] at hB10
  have X14 := Ext.gr (Ext.refl w) E11
  show wpList _ _ _ _ (fr [(.agg #[(Iv A_a.at_), (Fl r1), (Fl r3), (Fl r5)]), (Pt b8 0), Ud, Ud, Ud, Ud, Ud, Ud, Ud, Ud, Ud, Ud]) _
  refine seqd rfl rfl (does_alloc z119) ?_; rintro _ w19 ⟨b15, rfl, hb16, hB17, E18⟩
  have n20 : b8 < b15 := Nat.lt_of_lt_of_le (Blk.lt hB10) hb16
  have g21 : w.heap.size ≤ b15 := Nat.le_trans (Below.size X14) hb16
  change Blk _ _ [(Iv 0), (Fl 0), (Fl 0), (Fl 0)] at hB17
  have X22 := Ext.gr X14 E18
  show wpList _ _ _ _ (fr [(.agg #[(Iv A_a.at_), (Fl r1), (Fl r3), (Fl r5)]), (Pt b8 0), (Pt b15 0), Ud, Ud, Ud, Ud, Ud, Ud, Ud, Ud, Ud]) _
  refine wpList_nil (hK7 _ _ ?_)
  refine wp_seq_k fun K23 hK23 => ?_
  refine wp_region_lit ?_
  refine seqd rfl rfl (does_alloc z119) ?_; rintro _ w28 ⟨b24, rfl, hb25, hB26, E27⟩
  have n29 : b8 < b24 := Nat.lt_of_lt_of_le (Blk.lt (hB10.ext E18)) hb25
  have n30 : b15 < b24 := Nat.lt_of_lt_of_le (Blk.lt hB17) hb25
  have g31 : w.heap.size ≤ b24 := Nat.le_trans (Below.size X22) hb25
  change Blk _ _ [(Iv 0), (Fl 0), (Fl 0), (Fl 0)] at hB26
  have X32 := Ext.gr X22 E27
  show wpList _ _ _ _ (fr [(.agg #[(Iv A_a.at_), (Fl r1), (Fl r3), (Fl r5)]), (Pt b8 0), (Pt b15 0), (Pt b24 0), Ud, Ud, Ud, Ud, Ud, Ud, Ud, Ud]) _
  refine wpList_nil (hK23 _ _ ?_)
  refine wp_seq_k fun K33 hK33 => ?_
  refine wp_region_lit ?_
  refine q_is (l' := [(.agg #[(Iv A_a.at_), (Fl r1), (Fl r3), (Fl r5)]), (Pt b8 0), (Pt b15 0), (Pt b24 0), (Pt b8 0), Ud, Ud, Ud, Ud, Ud, Ud, Ud]) rfl rfl (does_fieldAddr (ev rfl) fa124_0) rfl ?_
  refine q_is (l' := [(.agg #[(Iv A_a.at_), (Fl r1), (Fl r3), (Fl r5)]), (Pt b8 0), (Pt b15 0), (Pt b24 0), (Pt b8 0), (Iv A_a.at_), Ud, Ud, Ud, Ud, Ud, Ud]) rfl rfl (does_load (u := (Iv A_a.at_)) (ev rfl) Try.isAgg2 (Cells.at (Blk.cells ((hB10.ext E18).ext E27)) 0 rfl)) rfl ?_
  refine q_is (l' := [(.agg #[(Iv A_a.at_), (Fl r1), (Fl r3), (Fl r5)]), (Pt b8 0), (Pt b15 0), (Pt b24 0), (Pt b8 0), (Iv A_a.at_), (Pt b24 0), Ud, Ud, Ud, Ud, Ud]) rfl rfl (does_fieldAddr (ev rfl) fa119_0) rfl ?_
  refine seqn rfl rfl (does_store (n := 1) (cs := [(Iv 0), (Fl 0), (Fl 0), (Fl 0)]) (u := (Iv A_a.at_)) (ev rfl) (ev rfl) Try.sizeOf2 rfl hB26 (Nat.le_of_ble_eq_true rfl) rfl) ?_; rintro _ w36 ⟨rfl, W34, hB35⟩
  change Blk _ _ [(Iv A_a.at_), (Fl 0), (Fl 0), (Fl 0)] at hB35
  have X37 := Below.wr X32 W34 g31
  refine wpList_nil (hK33 _ _ ?_)
  refine wp_seq_k fun K38 hK38 => ?_
  refine wp_region_lit ?_
  refine q_is (l' := [(.agg #[(Iv A_a.at_), (Fl r1), (Fl r3), (Fl r5)]), (Pt b8 0), (Pt b15 0), (Pt b24 0), (Pt b8 0), (Iv A_a.at_), (Pt b24 0), (Pt b8 1), Ud, Ud, Ud, Ud]) rfl rfl (does_fieldAddr (ev rfl) fa124_1) rfl ?_
  refine q_is (l' := [(.agg #[(Iv A_a.at_), (Fl r1), (Fl r3), (Fl r5)]), (Pt b8 0), (Pt b15 0), (Pt b24 0), (Pt b8 0), (Iv A_a.at_), (Pt b24 0), (Pt b8 1), (.agg #[(Fl r1), (Fl r3), (Fl r5)]), Ud, Ud, Ud]) rfl rfl (does_loadAgg (cs := [(Fl r1), (Fl r3), (Fl r5)]) (ev rfl) Try.isAgg50 Try.sizeOf50 (Cells.sub (Blk.cells (((hB10.ext E18).ext E27).wr W34 (Nat.ne_of_lt n29))) 1 3) rfl) rfl ?_
  refine seqd rfl rfl (does_call (args := #[(.agg #[(Fl r1), (Fl r3), (Fl r5)])]) cal41 (evs rfl) (c_laws_toVector [(Fl r1), (Fl r3), (Fl r5)] A_a.place _ ⟨r1, r3, r5, rfl, h2, h4, h6⟩)) ?_; rintro _ w40 ⟨E39, ⟨_, rfl, ⟨r41, r43, r45, rfl, h42, h44, h46⟩⟩⟩
  have X47 := Ext.gr X37 E39
  show wpList _ _ _ _ (fr [(.agg #[(Iv A_a.at_), (Fl r1), (Fl r3), (Fl r5)]), (Pt b8 0), (Pt b15 0), (Pt b24 0), (Pt b8 0), (Iv A_a.at_), (Pt b24 0), (Pt b8 1), (.agg #[(Fl r1), (Fl r3), (Fl r5)]), (.agg #[(Fl r41), (Fl r43), (Fl r45)]), Ud, Ud]) _
  refine q_is (l' := [(.agg #[(Iv A_a.at_), (Fl r1), (Fl r3), (Fl r5)]), (Pt b8 0), (Pt b15 0), (Pt b24 0), (Pt b8 0), (Iv A_a.at_), (Pt b24 0), (Pt b8 1), (.agg #[(Fl r1), (Fl r3), (Fl r5)]), (.agg #[(Fl r41), (Fl r43), (Fl r45)]), (Pt b24 1), Ud]) rfl rfl (does_fieldAddr (ev rfl) fa119_1) rfl ?_
  refine seqn rfl rfl (does_store (n := 3) (cs := [(Iv A_a.at_), (Fl 0), (Fl 0), (Fl 0)]) (u := (.agg #[(Fl r41), (Fl r43), (Fl r45)])) (ev rfl) (ev rfl) Try.sizeOf40 rfl (hB35.ext E39) (Nat.le_of_ble_eq_true rfl) rfl) ?_; rintro _ w50 ⟨rfl, W48, hB49⟩
  change Blk _ _ [(Iv A_a.at_), (Fl r41), (Fl r43), (Fl r45)] at hB49
  have X51 := Below.wr X47 W48 g31
  refine wpList_nil (hK38 _ _ ?_)
  refine wp_seq_k fun K52 hK52 => ?_
  refine wp_region_lit ?_
  refine q_is (l' := [(.agg #[(Iv A_a.at_), (Fl r1), (Fl r3), (Fl r5)]), (Pt b8 0), (Pt b15 0), (Pt b24 0), (Pt b8 0), (Iv A_a.at_), (Pt b24 0), (Pt b8 1), (.agg #[(Fl r1), (Fl r3), (Fl r5)]), (.agg #[(Fl r41), (Fl r43), (Fl r45)]), (Pt b24 1), (.agg #[(Iv A_a.at_), (Fl r41), (Fl r43), (Fl r45)])]) rfl rfl (does_loadAgg (cs := [(Iv A_a.at_), (Fl r41), (Fl r43), (Fl r45)]) (ev rfl) Try.isAgg119 Try.sizeOf119 (Blk.cells hB49) rfl) rfl ?_
  refine seqn rfl rfl (does_store (n := 4) (cs := [(Iv 0), (Fl 0), (Fl 0), (Fl 0)]) (u := (.agg #[(Iv A_a.at_), (Fl r41), (Fl r43), (Fl r45)])) (ev rfl) (ev rfl) Try.sizeOf119 rfl ((((hB17.ext E27).wr W34 (Nat.ne_of_lt n30)).ext E39).wr W48 (Nat.ne_of_lt n30)) (Nat.le_of_ble_eq_true rfl) rfl) ?_; rintro _ w55 ⟨rfl, W53, hB54⟩
  change Blk _ _ [(Iv A_a.at_), (Fl r41), (Fl r43), (Fl r45)] at hB54
  have X56 := Below.wr X51 W53 g21
  refine wpList_nil (hK52 _ _ ?_)
  refine wp_ret ?_
  refine ret_val (v := (.agg #[(Iv A_a.at_), (Fl r41), (Fl r43), (Fl r45)])) (res_C rfl (slot rfl) (run_loadAgg (cs := [(Iv A_a.at_), (Fl r41), (Fl r43), (Fl r45)]) Try.isAgg119 Try.sizeOf119 (Blk.cells hB54) rfl)) X56 ?_
  exact ⟨[(Iv A_a.at_), (Fl r41), (Fl r43), (Fl r45)], rfl, ⟨r41, r43, r45, rfl, h42, h44, h46⟩⟩

/- laws.toKeyS -/
theorem c_laws_toKeyS (a : Value) (L_a : List KeyT) (w : World) (hv_a : Sl RKeyT 4 w a L_a) (hsz : L_a.length ≤ 1048576) : Gives Try.prog 33 #[a] w (fun v w' => ∃ y_1 : Value, v = y_1 ∧ Hang w.heap.size w' (fun u => Sl RKeyT 4 u y_1 L_a)) := by
  have hlen_a := Sl.len hv_a; obtain ⟨p_a, q_a, rfl⟩ := Sl.shape hv_a
  refine enter [(.slice p_a L_a.length q_a), Ud, Ud, Ud, Ud, Ud, Ud, Ud, Ud, Ud, Ud, Ud, Ud, Ud, Ud, Ud, Ud, Ud, Ud, Ud, Ud, Ud, Ud] Try.func33 rfl Try.ntmps33 rfl ?_
  refine wp_seq_k fun K1 hK1 => ?_
  refine wp_region_lit ?_
  refine q_is (l' := [(.slice p_a L_a.length q_a), Ud, (.slice none 0 0), Ud, Ud, Ud, Ud, Ud, Ud, Ud, Ud, Ud, Ud, Ud, Ud, Ud, Ud, Ud, Ud, Ud, Ud, Ud, Ud]) rfl rfl (does_assign (u := (.slice none 0 0)) (ev rfl)) rfl ?_
  refine wpList_nil (hK1 _ _ ?_)
  refine wp_seq_k fun K2 hK2 => ?_
  refine wp_region_lit ?_
  refine q_is (l' := [(.slice p_a L_a.length q_a), Ud, (.slice none 0 0), Ud, Ud, (.slice p_a L_a.length q_a), Ud, Ud, Ud, Ud, Ud, Ud, Ud, Ud, Ud, Ud, Ud, Ud, Ud, Ud, Ud, Ud, Ud]) rfl rfl (does_move (u := (.slice p_a L_a.length q_a)) (ev rfl)) rfl ?_
  refine q_is (l' := [(.slice p_a L_a.length q_a), Ud, (.slice none 0 0), Ud, Ud, (.slice p_a L_a.length q_a), (Iv (L_a.length : Int)), Ud, Ud, Ud, Ud, Ud, Ud, Ud, Ud, Ud, Ud, Ud, Ud, Ud, Ud, Ud, Ud]) rfl rfl (does_len_slice Try.underlying34 (ev rfl)) rfl ?_
  refine seqd rfl rfl (does_makeSlice (n := L_a.length) Try.underlying43 inf119 (ev rfl) (ev rfl) (by omega)) ?_; rintro _ w7 ⟨b3, rfl, hb4, ⟨cs8, hB5, hl9, hz10⟩, E6⟩
  have g11 : w.heap.size ≤ b3 := Nat.le_trans (Below.size (Ext.refl w)) hb4
  have X12 := Ext.gr (Ext.refl w) E6
  show wpList _ _ _ _ (fr [(.slice p_a L_a.length q_a), Ud, (.slice none 0 0), Ud, Ud, (.slice p_a L_a.length q_a), (Iv (L_a.length : Int)), (.slice (some ⟨b3, 0, none⟩) L_a.length L_a.length), Ud, Ud, Ud, Ud, Ud, Ud, Ud, Ud, Ud, Ud, Ud, Ud, Ud, Ud, Ud]) _
  refine q_is (l' := [(.slice p_a L_a.length q_a), Ud, (.slice none 0 0), (.slice (some ⟨b3, 0, none⟩) L_a.length L_a.length), Ud, (.slice p_a L_a.length q_a), (Iv (L_a.length : Int)), (.slice (some ⟨b3, 0, none⟩) L_a.length L_a.length), Ud, Ud, Ud, Ud, Ud, Ud, Ud, Ud, Ud, Ud, Ud, Ud, Ud, Ud, Ud]) rfl rfl (does_assign (u := (.slice (some ⟨b3, 0, none⟩) L_a.length L_a.length)) (ev rfl)) rfl ?_
  refine wpList_nil (hK2 _ _ ?_)
  refine wp_seq_k fun K13 hK13 => ?_
  refine wp_seq_k fun K14 hK14 => ?_
  refine wp_region_lit ?_
  refine q_is (l' := [(.slice p_a L_a.length q_a), Ud, (.slice none 0 0), (.slice (some ⟨b3, 0, none⟩) L_a.length L_a.length), (Iv 0), (.slice p_a L_a.length q_a), (Iv (L_a.length : Int)), (.slice (some ⟨b3, 0, none⟩) L_a.length L_a.length), Ud, Ud, Ud, Ud, Ud, Ud, Ud, Ud, Ud, Ud, Ud, Ud, Ud, Ud, Ud]) rfl rfl (does_assign (u := (Iv 0)) (ev rfl)) rfl ?_
  refine wpList_nil (hK14 _ _ ?_)
  refine wp_block ?_
  have hF0 : Fill RKeyT 4 w7 b3 L_a.length L_a 0 := Fill.zero hB5 hl9
  refine loop_ghost (σ := Nat) (fun k a w' => ∃ u15 : Nat → Value, a = fr [(.slice p_a L_a.length q_a), Ud, (.slice none 0 0), (.slice (some ⟨b3, 0, none⟩) L_a.length L_a.length), (Iv (k : Int)), (.slice p_a L_a.length q_a), (Iv (L_a.length : Int)), (.slice (some ⟨b3, 0, none⟩) L_a.length L_a.length), (u15 8), (u15 9), (u15 10), (u15 11), (u15 12), (u15 13), (u15 14), (u15 15), (u15 16), (u15 17), (u15 18), (u15 19), (u15 20), (u15 21), Ud] ∧ KpL [b3] w7 w' ∧ Fill RKeyT 4 w' b3 L_a.length L_a k ∧ (k ≤ L_a.length)) (fun k => L_a.length - k) 0 ?_ ?_
  · refine ⟨fun t => (([(.slice p_a L_a.length q_a), Ud, (.slice none 0 0), (.slice (some ⟨b3, 0, none⟩) L_a.length L_a.length), (Iv 0), (.slice p_a L_a.length q_a), (Iv (L_a.length : Int)), (.slice (some ⟨b3, 0, none⟩) L_a.length L_a.length), Ud, Ud, Ud, Ud, Ud, Ud, Ud, Ud, Ud, Ud, Ud, Ud, Ud, Ud, Ud] : List Value)[t]?).getD undef, rfl, KpL.refl _ _, hF0, ?_⟩
    exact Nat.zero_le _
  · rintro k a w16 ⟨u15, rfl, E17, hF18, hk⟩
    have X19 := Below.kl X12 E17 (allS g11 all0) (Nat.le_refl _)
    refine wp_seq_k fun K20 hK20 => ?_
    refine wp_seq_k fun K21 hK21 => ?_
    refine wp_region_lit ?_
    refine q_is (l' := [(.slice p_a L_a.length q_a), Ud, (.slice none 0 0), (.slice (some ⟨b3, 0, none⟩) L_a.length L_a.length), (Iv (k : Int)), (.slice p_a L_a.length q_a), (Iv (L_a.length : Int)), (.slice (some ⟨b3, 0, none⟩) L_a.length L_a.length), (Iv (k : Int)), (u15 9), (u15 10), (u15 11), (u15 12), (u15 13), (u15 14), (u15 15), (u15 16), (u15 17), (u15 18), (u15 19), (u15 20), (u15 21), Ud]) rfl rfl (does_move (u := (Iv (k : Int))) (ev rfl)) rfl ?_
    refine q_is (l' := [(.slice p_a L_a.length q_a), Ud, (.slice none 0 0), (.slice (some ⟨b3, 0, none⟩) L_a.length L_a.length), (Iv (k : Int)), (.slice p_a L_a.length q_a), (Iv (L_a.length : Int)), (.slice (some ⟨b3, 0, none⟩) L_a.length L_a.length), (Iv (k : Int)), (.slice p_a L_a.length q_a), (u15 10), (u15 11), (u15 12), (u15 13), (u15 14), (u15 15), (u15 16), (u15 17), (u15 18), (u15 19), (u15 20), (u15 21), Ud]) rfl rfl (does_move (u := (.slice p_a L_a.length q_a)) (ev rfl)) rfl ?_
    refine q_is (l' := [(.slice p_a L_a.length q_a), Ud, (.slice none 0 0), (.slice (some ⟨b3, 0, none⟩) L_a.length L_a.length), (Iv (k : Int)), (.slice p_a L_a.length q_a), (Iv (L_a.length : Int)), (.slice (some ⟨b3, 0, none⟩) L_a.length L_a.length), (Iv (k : Int)), (.slice p_a L_a.length q_a), (Iv (L_a.length : Int)), (u15 11), (u15 12), (u15 13), (u15 14), (u15 15), (u15 16), (u15 17), (u15 18), (u15 19), (u15 20), (u15 21), Ud]) rfl rfl (does_len_slice Try.underlying34 (ev rfl)) rfl ?_
    refine q_is (l' := [(.slice p_a L_a.length q_a), Ud, (.slice none 0 0), (.slice (some ⟨b3, 0, none⟩) L_a.length L_a.length), (Iv (k : Int)), (.slice p_a L_a.length q_a), (Iv (L_a.length : Int)), (.slice (some ⟨b3, 0, none⟩) L_a.length L_a.length), (Iv (k : Int)), (.slice p_a L_a.length q_a), (Iv (L_a.length : Int)), (Bo (icmp .lss (k : Int) (L_a.length : Int))), (u15 12), (u15 13), (u15 14), (u15 15), (u15 16), (u15 17), (u15 18), (u15 19), (u15 20), (u15 21), Ud]) rfl rfl (does_icmp (p := (k : Int)) (q := (L_a.length : Int)) (.inr (.inr (.inl rfl))) (ev rfl) (ev rfl)) rfl ?_
    refine wpList_nil (hK21 _ _ ?_)
    refine wp_cond_split (t := icmp .lss (k : Int) (L_a.length : Int)) (ev rfl) (fun c22 => ?_) (fun c22 => ?_)
    · have c22' := c22
      (try simp only [icmp, Bool.and_eq_true, Bool.or_eq_true, Bool.and_eq_false_iff, Bool.or_eq_false_iff, Bool.not_eq_true', Bool.not_eq_false', decide_eq_true_eq, decide_eq_false_iff_not, beq_iff_eq, bne_iff_ne, beq_eq_false_iff_ne, bne_eq_false_iff_eq] at c22')
      refine wp_skip (hK20 _ _ ?_)
      refine wp_seq_k fun K23 hK23 => ?_
      refine wp_block ?_
      refine wp_region_lit ?_
      refine q_is (l' := [(.slice p_a L_a.length q_a), Ud, (.slice none 0 0), (.slice (some ⟨b3, 0, none⟩) L_a.length L_a.length), (Iv (k : Int)), (.slice p_a L_a.length q_a), (Iv (L_a.length : Int)), (.slice (some ⟨b3, 0, none⟩) L_a.length L_a.length), (Iv (k : Int)), (.slice p_a L_a.length q_a), (Iv (L_a.length : Int)), (Bo (icmp .lss (k : Int) (L_a.length : Int))), (u15 12), (u15 13), (.slice (some ⟨b3, 0, none⟩) L_a.length L_a.length), (u15 15), (u15 16), (u15 17), (u15 18), (u15 19), (u15 20), (u15 21), Ud]) rfl rfl (does_move (u := (.slice (some ⟨b3, 0, none⟩) L_a.length L_a.length)) (ev rfl)) rfl ?_
      refine q_is (l' := [(.slice p_a L_a.length q_a), Ud, (.slice none 0 0), (.slice (some ⟨b3, 0, none⟩) L_a.length L_a.length), (Iv (k : Int)), (.slice p_a L_a.length q_a), (Iv (L_a.length : Int)), (.slice (some ⟨b3, 0, none⟩) L_a.length L_a.length), (Iv (k : Int)), (.slice p_a L_a.length q_a), (Iv (L_a.length : Int)), (Bo (icmp .lss (k : Int) (L_a.length : Int))), (u15 12), (u15 13), (.slice (some ⟨b3, 0, none⟩) L_a.length L_a.length), (Iv (k : Int)), (u15 16), (u15 17), (u15 18), (u15 19), (u15 20), (u15 21), Ud]) rfl rfl (does_move (u := (Iv (k : Int))) (ev rfl)) rfl ?_
      refine q_is (l' := [(.slice p_a L_a.length q_a), Ud, (.slice none 0 0), (.slice (some ⟨b3, 0, none⟩) L_a.length L_a.length), (Iv (k : Int)), (.slice p_a L_a.length q_a), (Iv (L_a.length : Int)), (.slice (some ⟨b3, 0, none⟩) L_a.length L_a.length), (Iv (k : Int)), (.slice p_a L_a.length q_a), (Iv (L_a.length : Int)), (Bo (icmp .lss (k : Int) (L_a.length : Int))), (u15 12), (u15 13), (.slice (some ⟨b3, 0, none⟩) L_a.length L_a.length), (Iv (k : Int)), (.slice p_a L_a.length q_a), (u15 17), (u15 18), (u15 19), (u15 20), (u15 21), Ud]) rfl rfl (does_move (u := (.slice p_a L_a.length q_a)) (ev rfl)) rfl ?_
      refine q_is (l' := [(.slice p_a L_a.length q_a), Ud, (.slice none 0 0), (.slice (some ⟨b3, 0, none⟩) L_a.length L_a.length), (Iv (k : Int)), (.slice p_a L_a.length q_a), (Iv (L_a.length : Int)), (.slice (some ⟨b3, 0, none⟩) L_a.length L_a.length), (Iv (k : Int)), (.slice p_a L_a.length q_a), (Iv (L_a.length : Int)), (Bo (icmp .lss (k : Int) (L_a.length : Int))), (u15 12), (u15 13), (.slice (some ⟨b3, 0, none⟩) L_a.length L_a.length), (Iv (k : Int)), (.slice p_a L_a.length q_a), (Iv (k : Int)), (u15 18), (u15 19), (u15 20), (u15 21), Ud]) rfl rfl (does_move (u := (Iv (k : Int))) (ev rfl)) rfl ?_
      obtain ⟨el1, hel1⟩ : ∃ e, L_a[k]? = some e := ⟨_, List.getElem?_eq_getElem (by omega)⟩
      refine seqd rfl rfl (does_indexSl (R := RKeyT) (i := (k : Int)) (xs := L_a) (e := el1) Try.underlying34 Try.sizeOf124 (ev rfl) (ev rfl) (Sl.ext hv_a RKeyT.mono X19) (by omega) hel1) ?_; rintro _ w16 ⟨b24, o25, _, rfl, hc27, ⟨r28, r30, r32, rfl, h29, h31, h33⟩, rfl⟩
      show wpList _ _ _ _ (fr [(.slice p_a L_a.length q_a), Ud, (.slice none 0 0), (.slice (some ⟨b3, 0, none⟩) L_a.length L_a.length), (Iv (k : Int)), (.slice p_a L_a.length q_a), (Iv (L_a.length : Int)), (.slice (some ⟨b3, 0, none⟩) L_a.length L_a.length), (Iv (k : Int)), (.slice p_a L_a.length q_a), (Iv (L_a.length : Int)), (Bo (icmp .lss (k : Int) (L_a.length : Int))), (u15 12), (u15 13), (.slice (some ⟨b3, 0, none⟩) L_a.length L_a.length), (Iv (k : Int)), (.slice p_a L_a.length q_a), (Iv (k : Int)), (Pt b24 o25), (u15 19), (u15 20), (u15 21), Ud]) _
      refine q_is (l' := [(.slice p_a L_a.length q_a), Ud, (.slice none 0 0), (.slice (some ⟨b3, 0, none⟩) L_a.length L_a.length), (Iv (k : Int)), (.slice p_a L_a.length q_a), (Iv (L_a.length : Int)), (.slice (some ⟨b3, 0, none⟩) L_a.length L_a.length), (Iv (k : Int)), (.slice p_a L_a.length q_a), (Iv (L_a.length : Int)), (Bo (icmp .lss (k : Int) (L_a.length : Int))), (u15 12), (u15 13), (.slice (some ⟨b3, 0, none⟩) L_a.length L_a.length), (Iv (k : Int)), (.slice p_a L_a.length q_a), (Iv (k : Int)), (Pt b24 o25), (.agg #[(Iv el1.at_), (Fl r28), (Fl r30), (Fl r32)]), (u15 20), (u15 21), Ud]) rfl rfl (does_loadAgg (cs := [(Iv el1.at_), (Fl r28), (Fl r30), (Fl r32)]) (ev rfl) Try.isAgg124 Try.sizeOf124 hc27 rfl) rfl ?_
      refine seqd rfl rfl (does_call (args := #[(.agg #[(Iv el1.at_), (Fl r28), (Fl r30), (Fl r32)])]) cal68 (evs rfl) (c_laws_toKey [(Iv el1.at_), (Fl r28), (Fl r30), (Fl r32)] el1 _ ⟨r28, r30, r32, rfl, h29, h31, h33⟩)) ?_; rintro _ w35 ⟨E34, ⟨_, rfl, ⟨r36, r38, r40, rfl, h37, h39, h41⟩⟩⟩
      have X42 := Ext.gr X19 E34
      show wpList _ _ _ _ (fr [(.slice p_a L_a.length q_a), Ud, (.slice none 0 0), (.slice (some ⟨b3, 0, none⟩) L_a.length L_a.length), (Iv (k : Int)), (.slice p_a L_a.length q_a), (Iv (L_a.length : Int)), (.slice (some ⟨b3, 0, none⟩) L_a.length L_a.length), (Iv (k : Int)), (.slice p_a L_a.length q_a), (Iv (L_a.length : Int)), (Bo (icmp .lss (k : Int) (L_a.length : Int))), (u15 12), (u15 13), (.slice (some ⟨b3, 0, none⟩) L_a.length L_a.length), (Iv (k : Int)), (.slice p_a L_a.length q_a), (Iv (k : Int)), (Pt b24 o25), (.agg #[(Iv el1.at_), (Fl r28), (Fl r30), (Fl r32)]), (.agg #[(Iv el1.at_), (Fl r36), (Fl r38), (Fl r40)]), (u15 21), Ud]) _
      refine q_is (l' := [(.slice p_a L_a.length q_a), Ud, (.slice none 0 0), (.slice (some ⟨b3, 0, none⟩) L_a.length L_a.length), (Iv (k : Int)), (.slice p_a L_a.length q_a), (Iv (L_a.length : Int)), (.slice (some ⟨b3, 0, none⟩) L_a.length L_a.length), (Iv (k : Int)), (.slice p_a L_a.length q_a), (Iv (L_a.length : Int)), (Bo (icmp .lss (k : Int) (L_a.length : Int))), (u15 12), (u15 13), (.slice (some ⟨b3, 0, none⟩) L_a.length L_a.length), (Iv (k : Int)), (.slice p_a L_a.length q_a), (Iv (k : Int)), (Pt b24 o25), (.agg #[(Iv el1.at_), (Fl r28), (Fl r30), (Fl r32)]), (.agg #[(Iv el1.at_), (Fl r36), (Fl r38), (Fl r40)]), (Pt b3 (k * 4)), Ud]) rfl rfl (does_indexOwn (b := b3) (n := L_a.length) (i := (k : Int)) Try.underlying43 Try.sizeOf119 (ev rfl) (ev rfl) (by omega) (by omega)) rfl ?_
      refine seqn rfl rfl (does_fill (R := RKeyT) (k := 4) (n := L_a.length) (j := k) (xs := L_a) (u := (.agg #[(Iv el1.at_), (Fl r36), (Fl r38), (Fl r40)])) (e := el1) (ev rfl) (ev rfl) Try.sizeOf119 rfl rfl (Fill.ext hF18 RKeyT.mono E34) (by omega) hel1 (fun _ => ⟨r36, r38, r40, rfl, h37, h39, h41⟩) (fun _ _ _ _ h => h)) ?_; rintro _ w45 ⟨rfl, W43, hF44⟩
      have X46 := Below.wr X42 W43 g11
      refine wpList_nil (hK23 _ _ ?_)
      refine wp_region_lit ?_
      refine q_is (l' := [(.slice p_a L_a.length q_a), Ud, (.slice none 0 0), (.slice (some ⟨b3, 0, none⟩) L_a.length L_a.length), (Iv (k : Int)), (.slice p_a L_a.length q_a), (Iv (L_a.length : Int)), (.slice (some ⟨b3, 0, none⟩) L_a.length L_a.length), (Iv (k : Int)), (.slice p_a L_a.length q_a), (Iv (L_a.length : Int)), (Bo (icmp .lss (k : Int) (L_a.length : Int))), (Iv (k : Int)), (u15 13), (.slice (some ⟨b3, 0, none⟩) L_a.length L_a.length), (Iv (k : Int)), (.slice p_a L_a.length q_a), (Iv (k : Int)), (Pt b24 o25), (.agg #[(Iv el1.at_), (Fl r28), (Fl r30), (Fl r32)]), (.agg #[(Iv el1.at_), (Fl r36), (Fl r38), (Fl r40)]), (Pt b3 (k * 4)), Ud]) rfl rfl (does_move (u := (Iv (k : Int))) (ev rfl)) rfl ?_
      refine q_is (l' := [(.slice p_a L_a.length q_a), Ud, (.slice none 0 0), (.slice (some ⟨b3, 0, none⟩) L_a.length L_a.length), (Iv (k : Int)), (.slice p_a L_a.length q_a), (Iv (L_a.length : Int)), (.slice (some ⟨b3, 0, none⟩) L_a.length L_a.length), (Iv (k : Int)), (.slice p_a L_a.length q_a), (Iv (L_a.length : Int)), (Bo (icmp .lss (k : Int) (L_a.length : Int))), (Iv (k : Int)), (Iv ((k : Int) + 1)), (.slice (some ⟨b3, 0, none⟩) L_a.length L_a.length), (Iv (k : Int)), (.slice p_a L_a.length q_a), (Iv (k : Int)), (Pt b24 o25), (.agg #[(Iv el1.at_), (Fl r28), (Fl r30), (Fl r32)]), (.agg #[(Iv el1.at_), (Fl r36), (Fl r38), (Fl r40)]), (Pt b3 (k * 4)), Ud]) rfl rfl (does_iarith (p := (k : Int)) (q := 1) (r := (k : Int) + 1) (ev rfl) (ev rfl) (.inl ⟨rfl, (in_i64 (by omega) (by omega)).symm⟩)) rfl ?_
      refine q_is (l' := [(.slice p_a L_a.length q_a), Ud, (.slice none 0 0), (.slice (some ⟨b3, 0, none⟩) L_a.length L_a.length), (Iv ((k : Int) + 1)), (.slice p_a L_a.length q_a), (Iv (L_a.length : Int)), (.slice (some ⟨b3, 0, none⟩) L_a.length L_a.length), (Iv (k : Int)), (.slice p_a L_a.length q_a), (Iv (L_a.length : Int)), (Bo (icmp .lss (k : Int) (L_a.length : Int))), (Iv (k : Int)), (Iv ((k : Int) + 1)), (.slice (some ⟨b3, 0, none⟩) L_a.length L_a.length), (Iv (k : Int)), (.slice p_a L_a.length q_a), (Iv (k : Int)), (Pt b24 o25), (.agg #[(Iv el1.at_), (Fl r28), (Fl r30), (Fl r32)]), (.agg #[(Iv el1.at_), (Fl r36), (Fl r38), (Fl r40)]), (Pt b3 (k * 4)), Ud]) rfl rfl (does_assign (u := (Iv ((k : Int) + 1))) (ev rfl)) rfl ?_
      refine wpList_nil ?_
      refine ⟨k + 1, ⟨fun t => (([(.slice p_a L_a.length q_a), Ud, (.slice none 0 0), (.slice (some ⟨b3, 0, none⟩) L_a.length L_a.length), (Iv ((k : Int) + 1)), (.slice p_a L_a.length q_a), (Iv (L_a.length : Int)), (.slice (some ⟨b3, 0, none⟩) L_a.length L_a.length), (Iv (k : Int)), (.slice p_a L_a.length q_a), (Iv (L_a.length : Int)), (Bo (icmp .lss (k : Int) (L_a.length : Int))), (Iv (k : Int)), (Iv ((k : Int) + 1)), (.slice (some ⟨b3, 0, none⟩) L_a.length L_a.length), (Iv (k : Int)), (.slice p_a L_a.length q_a), (Iv (k : Int)), (Pt b24 o25), (.agg #[(Iv el1.at_), (Fl r28), (Fl r30), (Fl r32)]), (.agg #[(Iv el1.at_), (Fl r36), (Fl r38), (Fl r40)]), (Pt b3 (k * 4)), Ud] : List Value)[t]?).getD undef, ?_, (KpL.more (KpL.ext E17 E34) (KpL.of_wr W43) (allS (.inl (by simp)) all0)), hF44, ?_⟩, ?_⟩
      · first | rfl | (simp only [Nat.cast_add, Nat.cast_one, Int.natCast_add, Int.natCast_one]; rfl)
      · omega
      · omega
    have c22' := c22
    (try simp only [icmp, Bool.and_eq_true, Bool.or_eq_true, Bool.and_eq_false_iff, Bool.or_eq_false_iff, Bool.not_eq_true', Bool.not_eq_false', decide_eq_true_eq, decide_eq_false_iff_not, beq_iff_eq, bne_iff_ne, beq_eq_false_iff_ne, bne_eq_false_iff_eq] at c22')
    refine wp_exit ?_
    refine hK13 _ _ ?_
    refine wp_seq_k fun K47 hK47 => ?_
    refine wp_region_lit ?_
    refine q_is (l' := [(.slice p_a L_a.length q_a), Ud, (.slice none 0 0), (.slice (some ⟨b3, 0, none⟩) L_a.length L_a.length), (Iv (k : Int)), (.slice p_a L_a.length q_a), (Iv (L_a.length : Int)), (.slice (some ⟨b3, 0, none⟩) L_a.length L_a.length), (Iv (k : Int)), (.slice p_a L_a.length q_a), (Iv (L_a.length : Int)), (Bo (icmp .lss (k : Int) (L_a.length : Int))), (u15 12), (u15 13), (u15 14), (u15 15), (u15 16), (u15 17), (u15 18), (u15 19), (u15 20), (u15 21), (.slice (some ⟨b3, 0, none⟩) L_a.length L_a.length)]) rfl rfl (does_move (u := (.slice (some ⟨b3, 0, none⟩) L_a.length L_a.length)) (ev rfl)) rfl ?_
    refine q_is (l' := [(.slice p_a L_a.length q_a), Ud, (.slice (some ⟨b3, 0, none⟩) L_a.length L_a.length), (.slice (some ⟨b3, 0, none⟩) L_a.length L_a.length), (Iv (k : Int)), (.slice p_a L_a.length q_a), (Iv (L_a.length : Int)), (.slice (some ⟨b3, 0, none⟩) L_a.length L_a.length), (Iv (k : Int)), (.slice p_a L_a.length q_a), (Iv (L_a.length : Int)), (Bo (icmp .lss (k : Int) (L_a.length : Int))), (u15 12), (u15 13), (u15 14), (u15 15), (u15 16), (u15 17), (u15 18), (u15 19), (u15 20), (u15 21), (.slice (some ⟨b3, 0, none⟩) L_a.length L_a.length)]) rfl rfl (does_assign (u := (.slice (some ⟨b3, 0, none⟩) L_a.length L_a.length)) (ev rfl)) rfl ?_
    refine wpList_nil (hK47 _ _ ?_)
    refine wp_ret ?_
    refine ret_val (v := (.slice (some ⟨b3, 0, none⟩) L_a.length L_a.length)) (res_T rfl (slot rfl)) X19 ?_
    exact ⟨(.slice (some ⟨b3, 0, none⟩) L_a.length L_a.length), rfl, (Fill.hang hF18 RKeyT.flat g11 (by omega) rfl (by omega) (by decide))⟩

/- laws.toThing -/
theorem c_laws_toThing (a : List Value) (A_a : ThingT) (w : World) (hv_a : RThingT w A_a a) (hth : thTot A_a ≤ 1048576) : Gives Try.prog 13 #[(.agg a.toArray)] w (fun v w' => ∃ cs_1 : List Value, v = (.agg cs_1.toArray) ∧ Hang w.heap.size w' (fun u => RThingT u A_a cs_1)) := by
  obtain ⟨y2, y4, rfl, h3, h5, hb1⟩ := hv_a
  have hs8 := h3; have hs8l := Sl.len h3; obtain ⟨p6, q7, rfl⟩ := Sl.shape h3
  have hs11 := h5; have hs11l := Sl.len h5; obtain ⟨p9, q10, rfl⟩ := Sl.shape h5
  have hth2 := hth
  unfold thTot at hth2
  refine enter [(.agg #[(.string A_a.name), (.slice p6 A_a.shape.nodes.length q7), (.slice p9 A_a.keys.length q10)]), Ud, Ud, Ud, Ud, Ud, Ud, Ud, Ud, Ud, Ud, Ud, Ud, Ud, Ud, Ud] Try.func13 rfl Try.ntmps13 rfl ?_
  refine wp_seq_k fun K12 hK12 => ?_
  refine wp_region_lit ?_
  refine seqd rfl rfl (does_box (u := (.agg #[(.string A_a.name), (.slice p6 A_a.shape.nodes.length q7), (.slice p9 A_a.keys.length q10)])) (ev rfl)) ?_; rintro _ w17 ⟨b13, rfl, hb14, hB15, E16⟩
  have g18 : w.heap.size ≤ b13 := Nat.le_trans (Below.size (Ext.refl w)) hb14
  change Blk _ _ [(.string A_a.name), (.slice p6 A_a.shape.nodes.length q7), (.slice p9 A_a.keys.length q10)] at hB15
  have X19 := Ext.gr (Ext.refl w) E16
  show wpList _ _ _ _ (fr [(.agg #[(.string A_a.name), (.slice p6 A_a.shape.nodes.length q7), (.slice p9 A_a.keys.length q10)]), (Pt b13 0), Ud, Ud, Ud, Ud, Ud, Ud, Ud, Ud, Ud, Ud, Ud, Ud, Ud, Ud]) _
  refine seqd rfl rfl (does_alloc z45) ?_; rintro _ w24 ⟨b20, rfl, hb21, hB22, E23⟩
  have n25 : b13 < b20 := Nat.lt_of_lt_of_le (Blk.lt hB15) hb21
  have g26 : w.heap.size ≤ b20 := Nat.le_trans (Below.size X19) hb21
  change Blk _ _ [(.string (⟨#[]⟩)), (.slice none 0 0), (.slice none 0 0)] at hB22
  have X27 := Ext.gr X19 E23
  show wpList _ _ _ _ (fr [(.agg #[(.string A_a.name), (.slice p6 A_a.shape.nodes.length q7), (.slice p9 A_a.keys.length q10)]), (Pt b13 0), (Pt b20 0), Ud, Ud, Ud, Ud, Ud, Ud, Ud, Ud, Ud, Ud, Ud, Ud, Ud]) _
  refine wpList_nil (hK12 _ _ ?_)
  refine wp_seq_k fun K28 hK28 => ?_
  refine wp_region_lit ?_
  refine seqd rfl rfl (does_alloc z45) ?_; rintro _ w33 ⟨b29, rfl, hb30, hB31, E32⟩
  have n34 : b13 < b29 := Nat.lt_of_lt_of_le (Blk.lt (hB15.ext E23)) hb30
  have n35 : b20 < b29 := Nat.lt_of_lt_of_le (Blk.lt hB22) hb30
  have g36 : w.heap.size ≤ b29 := Nat.le_trans (Below.size X27) hb30
  change Blk _ _ [(.string (⟨#[]⟩)), (.slice none 0 0), (.slice none 0 0)] at hB31
  have X37 := Ext.gr X27 E32
  show wpList _ _ _ _ (fr [(.agg #[(.string A_a.name), (.slice p6 A_a.shape.nodes.length q7), (.slice p9 A_a.keys.length q10)]), (Pt b13 0), (Pt b20 0), (Pt b29 0), Ud, Ud, Ud, Ud, Ud, Ud, Ud, Ud, Ud, Ud, Ud, Ud]) _
  refine wpList_nil (hK28 _ _ ?_)
  refine wp_seq_k fun K38 hK38 => ?_
  refine wp_region_lit ?_
  refine q_is (l' := [(.agg #[(.string A_a.name), (.slice p6 A_a.shape.nodes.length q7), (.slice p9 A_a.keys.length q10)]), (Pt b13 0), (Pt b20 0), (Pt b29 0), (Pt b13 0), Ud, Ud, Ud, Ud, Ud, Ud, Ud, Ud, Ud, Ud, Ud]) rfl rfl (does_fieldAddr (ev rfl) fa36_0) rfl ?_
  refine q_is (l' := [(.agg #[(.string A_a.name), (.slice p6 A_a.shape.nodes.length q7), (.slice p9 A_a.keys.length q10)]), (Pt b13 0), (Pt b20 0), (Pt b29 0), (Pt b13 0), (.string A_a.name), Ud, Ud, Ud, Ud, Ud, Ud, Ud, Ud, Ud, Ud]) rfl rfl (does_load (u := (.string A_a.name)) (ev rfl) Try.isAgg9 (Cells.at (Blk.cells ((hB15.ext E23).ext E32)) 0 rfl)) rfl ?_
  refine q_is (l' := [(.agg #[(.string A_a.name), (.slice p6 A_a.shape.nodes.length q7), (.slice p9 A_a.keys.length q10)]), (Pt b13 0), (Pt b20 0), (Pt b29 0), (Pt b13 0), (.string A_a.name), (Pt b29 0), Ud, Ud, Ud, Ud, Ud, Ud, Ud, Ud, Ud]) rfl rfl (does_fieldAddr (ev rfl) fa45_0) rfl ?_
  refine seqn rfl rfl (does_store (n := 1) (cs := [(.string (⟨#[]⟩)), (.slice none 0 0), (.slice none 0 0)]) (u := (.string A_a.name)) (ev rfl) (ev rfl) Try.sizeOf9 rfl hB31 (Nat.le_of_ble_eq_true rfl) rfl) ?_; rintro _ w41 ⟨rfl, W39, hB40⟩
  change Blk _ _ [(.string A_a.name), (.slice none 0 0), (.slice none 0 0)] at hB40
  have X42 := Below.wr X37 W39 g36
  refine wpList_nil (hK38 _ _ ?_)
  refine wp_seq_k fun K43 hK43 => ?_
  refine wp_region_lit ?_
  refine q_is (l' := [(.agg #[(.string A_a.name), (.slice p6 A_a.shape.nodes.length q7), (.slice p9 A_a.keys.length q10)]), (Pt b13 0), (Pt b20 0), (Pt b29 0), (Pt b13 0), (.string A_a.name), (Pt b29 0), (Pt b13 1), Ud, Ud, Ud, Ud, Ud, Ud, Ud, Ud]) rfl rfl (does_fieldAddr (ev rfl) fa36_1) rfl ?_
  refine q_is (l' := [(.agg #[(.string A_a.name), (.slice p6 A_a.shape.nodes.length q7), (.slice p9 A_a.keys.length q10)]), (Pt b13 0), (Pt b20 0), (Pt b29 0), (Pt b13 0), (.string A_a.name), (Pt b29 0), (Pt b13 1), (.agg #[(.slice p6 A_a.shape.nodes.length q7)]), Ud, Ud, Ud, Ud, Ud, Ud, Ud]) rfl rfl (does_loadAgg (cs := [(.slice p6 A_a.shape.nodes.length q7)]) (ev rfl) Try.isAgg24 Try.sizeOf24 (Cells.sub (Blk.cells (((hB15.ext E23).ext E32).wr W39 (Nat.ne_of_lt n34))) 1 1) rfl) rfl ?_
  refine seqd rfl rfl (does_call (args := #[(.agg #[(.slice p6 A_a.shape.nodes.length q7)])]) cal8 (evs rfl) (c_laws_toShape [(.slice p6 A_a.shape.nodes.length q7)] A_a.shape _ ⟨(.slice p6 A_a.shape.nodes.length q7), rfl, (Sl.ext hs8 RNodeT.mono X42)⟩ (by omega))) ?_; rintro _ w45 ⟨E44, ⟨cs47, rfl, hh46⟩⟩
  have X48 := Ext.gr X42 E44
  have n49 : b13 < w41.heap.size := Blk.lt (((hB15.ext E23).ext E32).wr W39 (Nat.ne_of_lt n34))
  have n50 : b20 < w41.heap.size := Blk.lt ((hB22.ext E32).wr W39 (Nat.ne_of_lt n35))
  have n51 : b29 < w41.heap.size := Blk.lt hB40
  obtain ⟨y52, rfl, h53⟩ := hh46.get
  have h53l := Sl.len h53; obtain ⟨p54, q55, rfl⟩ := Sl.shape h53
  have hh56 : Hang w41.heap.size w45 (fun u => Sl RNodeT 4 u (.slice p54 A_a.shape.nodes.length q55) A_a.shape.nodes) := fun u hu => by obtain ⟨_, hq, _⟩ := hh46 u hu; cases hq; assumption
  show wpList _ _ _ _ (fr [(.agg #[(.string A_a.name), (.slice p6 A_a.shape.nodes.length q7), (.slice p9 A_a.keys.length q10)]), (Pt b13 0), (Pt b20 0), (Pt b29 0), (Pt b13 0), (.string A_a.name), (Pt b29 0), (Pt b13 1), (.agg #[(.slice p6 A_a.shape.nodes.length q7)]), (.agg #[(.slice p54 A_a.shape.nodes.length q55)]), Ud, Ud, Ud, Ud, Ud, Ud]) _
  refine q_is (l' := [(.agg #[(.string A_a.name), (.slice p6 A_a.shape.nodes.length q7), (.slice p9 A_a.keys.length q10)]), (Pt b13 0), (Pt b20 0), (Pt b29 0), (Pt b13 0), (.string A_a.name), (Pt b29 0), (Pt b13 1), (.agg #[(.slice p6 A_a.shape.nodes.length q7)]), (.agg #[(.slice p54 A_a.shape.nodes.length q55)]), (Pt b29 1), Ud, Ud, Ud, Ud, Ud]) rfl rfl (does_fieldAddr (ev rfl) fa45_1) rfl ?_
  refine seqn rfl rfl (does_store (n := 1) (cs := [(.string A_a.name), (.slice none 0 0), (.slice none 0 0)]) (u := (.agg #[(.slice p54 A_a.shape.nodes.length q55)])) (ev rfl) (ev rfl) Try.sizeOf30 rfl (hB40.ext E44) (Nat.le_of_ble_eq_true rfl) rfl) ?_; rintro _ w59 ⟨rfl, W57, hB58⟩
  change Blk _ _ [(.string A_a.name), (.slice p54 A_a.shape.nodes.length q55), (.slice none 0 0)] at hB58
  have X60 := Below.wr X48 W57 g36
  refine wpList_nil (hK43 _ _ ?_)
  refine wp_seq_k fun K61 hK61 => ?_
  refine wp_region_lit ?_
  refine q_is (l' := [(.agg #[(.string A_a.name), (.slice p6 A_a.shape.nodes.length q7), (.slice p9 A_a.keys.length q10)]), (Pt b13 0), (Pt b20 0), (Pt b29 0), (Pt b13 0), (.string A_a.name), (Pt b29 0), (Pt b13 1), (.agg #[(.slice p6 A_a.shape.nodes.length q7)]), (.agg #[(.slice p54 A_a.shape.nodes.length q55)]), (Pt b29 1), (Pt b13 2), Ud, Ud, Ud, Ud]) rfl rfl (does_fieldAddr (ev rfl) fa36_2) rfl ?_
  refine q_is (l' := [(.agg #[(.string A_a.name), (.slice p6 A_a.shape.nodes.length q7), (.slice p9 A_a.keys.length q10)]), (Pt b13 0), (Pt b20 0), (Pt b29 0), (Pt b13 0), (.string A_a.name), (Pt b29 0), (Pt b13 1), (.agg #[(.slice p6 A_a.shape.nodes.length q7)]), (.agg #[(.slice p54 A_a.shape.nodes.length q55)]), (Pt b29 1), (Pt b13 2), (.slice p9 A_a.keys.length q10), Ud, Ud, Ud]) rfl rfl (does_load (u := (.slice p9 A_a.keys.length q10)) (ev rfl) Try.isAgg34 (Cells.at (Blk.cells (((((hB15.ext E23).ext E32).wr W39 (Nat.ne_of_lt n34)).ext E44).wr W57 (Nat.ne_of_lt n34))) 2 rfl)) rfl ?_
  refine seqd rfl rfl (does_call (args := #[(.slice p9 A_a.keys.length q10)]) cal33 (evs rfl) (c_laws_toKeyS (.slice p9 A_a.keys.length q10) A_a.keys _ (Sl.ext hs11 RKeyT.mono X60) (by omega))) ?_; rintro _ w63 ⟨E62, ⟨y65, rfl, hh64⟩⟩
  have X66 := Ext.gr X60 E62
  have n67 : b13 < w59.heap.size := Blk.lt (((((hB15.ext E23).ext E32).wr W39 (Nat.ne_of_lt n34)).ext E44).wr W57 (Nat.ne_of_lt n34))
  have n68 : b20 < w59.heap.size := Blk.lt ((((hB22.ext E32).wr W39 (Nat.ne_of_lt n35)).ext E44).wr W57 (Nat.ne_of_lt n35))
  have n69 : b29 < w59.heap.size := Blk.lt hB58
  obtain ⟨p70, q71, rfl⟩ := Sl.shape hh64.get
  show wpList _ _ _ _ (fr [(.agg #[(.string A_a.name), (.slice p6 A_a.shape.nodes.length q7), (.slice p9 A_a.keys.length q10)]), (Pt b13 0), (Pt b20 0), (Pt b29 0), (Pt b13 0), (.string A_a.name), (Pt b29 0), (Pt b13 1), (.agg #[(.slice p6 A_a.shape.nodes.length q7)]), (.agg #[(.slice p54 A_a.shape.nodes.length q55)]), (Pt b29 1), (Pt b13 2), (.slice p9 A_a.keys.length q10), (.slice p70 A_a.keys.length q71), Ud, Ud]) _
  refine q_is (l' := [(.agg #[(.string A_a.name), (.slice p6 A_a.shape.nodes.length q7), (.slice p9 A_a.keys.length q10)]), (Pt b13 0), (Pt b20 0), (Pt b29 0), (Pt b13 0), (.string A_a.name), (Pt b29 0), (Pt b13 1), (.agg #[(.slice p6 A_a.shape.nodes.length q7)]), (.agg #[(.slice p54 A_a.shape.nodes.length q55)]), (Pt b29 1), (Pt b13 2), (.slice p9 A_a.keys.length q10), (.slice p70 A_a.keys.length q71), (Pt b29 2), Ud]) rfl rfl (does_fieldAddr (ev rfl) fa45_2) rfl ?_
  refine seqn rfl rfl (does_store (n := 1) (cs := [(.string A_a.name), (.slice p54 A_a.shape.nodes.length q55), (.slice none 0 0)]) (u := (.slice p70 A_a.keys.length q71)) (ev rfl) (ev rfl) Try.sizeOf43 rfl (hB58.ext E62) (Nat.le_of_ble_eq_true rfl) rfl) ?_; rintro _ w74 ⟨rfl, W72, hB73⟩
  change Blk _ _ [(.string A_a.name), (.slice p54 A_a.shape.nodes.length q55), (.slice p70 A_a.keys.length q71)] at hB73
  have X75 := Below.wr X66 W72 g36
  refine wpList_nil (hK61 _ _ ?_)
  refine wp_seq_k fun K76 hK76 => ?_
  refine wp_region_lit ?_
  refine q_is (l' := [(.agg #[(.string A_a.name), (.slice p6 A_a.shape.nodes.length q7), (.slice p9 A_a.keys.length q10)]), (Pt b13 0), (Pt b20 0), (Pt b29 0), (Pt b13 0), (.string A_a.name), (Pt b29 0), (Pt b13 1), (.agg #[(.slice p6 A_a.shape.nodes.length q7)]), (.agg #[(.slice p54 A_a.shape.nodes.length q55)]), (Pt b29 1), (Pt b13 2), (.slice p9 A_a.keys.length q10), (.slice p70 A_a.keys.length q71), (Pt b29 2), (.agg #[(.string A_a.name), (.slice p54 A_a.shape.nodes.length q55), (.slice p70 A_a.keys.length q71)])]) rfl rfl (does_loadAgg (cs := [(.string A_a.name), (.slice p54 A_a.shape.nodes.length q55), (.slice p70 A_a.keys.length q71)]) (ev rfl) Try.isAgg45 Try.sizeOf45 (Blk.cells hB73) rfl) rfl ?_
  refine seqn rfl rfl (does_store (n := 3) (cs := [(.string (⟨#[]⟩)), (.slice none 0 0), (.slice none 0 0)]) (u := (.agg #[(.string A_a.name), (.slice p54 A_a.shape.nodes.length q55), (.slice p70 A_a.keys.length q71)])) (ev rfl) (ev rfl) Try.sizeOf45 rfl ((((((hB22.ext E32).wr W39 (Nat.ne_of_lt n35)).ext E44).wr W57 (Nat.ne_of_lt n35)).ext E62).wr W72 (Nat.ne_of_lt n35)) (Nat.le_of_ble_eq_true rfl) rfl) ?_; rintro _ w79 ⟨rfl, W77, hB78⟩
  change Blk _ _ [(.string A_a.name), (.slice p54 A_a.shape.nodes.length q55), (.slice p70 A_a.keys.length q71)] at hB78
  have X80 := Below.wr X75 W77 g26
  refine wpList_nil (hK76 _ _ ?_)
  refine wp_ret ?_
  refine ret_val (v := (.agg #[(.string A_a.name), (.slice p54 A_a.shape.nodes.length q55), (.slice p70 A_a.keys.length q71)])) (res_C rfl (slot rfl) (run_loadAgg (cs := [(.string A_a.name), (.slice p54 A_a.shape.nodes.length q55), (.slice p70 A_a.keys.length q71)]) Try.isAgg45 Try.sizeOf45 (Blk.cells hB78) rfl)) X80 ?_
  exact ⟨[(.string A_a.name), (.slice p54 A_a.shape.nodes.length q55), (.slice p70 A_a.keys.length q71)], rfl, fun u hu => ⟨(.slice p54 A_a.shape.nodes.length q55), (.slice p70 A_a.keys.length q71), rfl, ((Hang.to hh56 (((((Same.refl _ _).wr W57 (.inl n51)).ext E62).wr W72 (.inl n51)).wr W77 (.inl n50))).le (Below.size (Below.wr (Ext.gr (Ext.gr (Ext.gr (Ext.refl _) E16) E23) E32) W39 g36))) u hu, ((Hang.to hh64 (((Same.refl _ _).wr W72 (.inl n69)).wr W77 (.inl n68))).le (Below.size (Below.wr (Ext.gr (Below.wr (Ext.gr (Ext.gr (Ext.gr (Ext.refl _) E16) E23) E32) W39 g36) E44) W57 g36))) u hu, (by assumption)⟩⟩

/- impl.in -/
theorem c_impl_in (n : Int) (low : Int) (high : Int) (w : World) : Gives Try.prog 55 #[(Iv n), (Iv low), (Iv high)] w (fun v w' => v = (Bo (inI n low high))) := by
  refine enter [(Iv n), (Iv low), (Iv high), Ud, Ud, Ud, Ud, Ud, Ud, Ud, Ud, Ud, Ud, Ud, Ud] Try.func55 rfl Try.ntmps55 rfl ?_
  refine wp_seq_k fun K1 hK1 => ?_
  refine wp_region_lit ?_
  refine q_is (l' := [(Iv n), (Iv low), (Iv high), Ud, Ud, Ud, (Bo false), Ud, Ud, Ud, Ud, Ud, Ud, Ud, Ud]) rfl rfl (does_assign (u := (Bo false)) (ev rfl)) rfl ?_
  refine wpList_nil (hK1 _ _ ?_)
  refine wp_seq_k fun K2 hK2 => ?_
  obtain ⟨β1, hβ1⟩ : ∃ b : Bool, b = ((icmp .geq n low) && (icmp .leq n high)) := ⟨_, rfl⟩
  refine region_text (
    [Fact.pure [] (fun v => v = (Iv n)),
    Fact.pure [] (fun v => v = (Iv low)),
    Fact.pure [7, 8] (fun v => v = (Bo (icmp .geq n low))),
    Fact.pure [9] (fun v => v = (Bo (icmp .geq n low))),
    Fact.pure [10] (fun v => (icmp .geq n low) = true → v = (Iv n)),
    Fact.pure [10] (fun v => (icmp .geq n low) = true → v = (Iv high)),
    Fact.pure [11, 12, 10] (fun v => (icmp .geq n low) = true → v = (Bo (icmp .leq n high))),
    Fact.pure [10, 13] (fun v => v = (Bo β1))]) (by simp [Fact.pure, Fact.mem]) ?_
  refine RW_d (fun v3 => [(Iv n), (Iv low), (Iv high), Ud, Ud, Ud, (Bo false), v3, Ud, Ud, Ud, Ud, Ud, Ud, Ud]) rfl (fun _ => rfl) (fun u hu hF => ?_) (fun v3 => ?_)
  · clear hF
    refine doesG_un rfl ?_
    refine (does_move (u := (Iv n)) (ev rfl)).mono ?_; rintro _ _ ⟨rfl, rfl⟩
    exact ⟨rfl, Ext.refl _⟩
  refine RW_d (fun v4 => [(Iv n), (Iv low), (Iv high), Ud, Ud, Ud, (Bo false), v3, v4, Ud, Ud, Ud, Ud, Ud, Ud]) rfl (fun _ => rfl) (fun u hu hF => ?_) (fun v4 => ?_)
  · clear hF
    refine doesG_un rfl ?_
    refine (does_move (u := (Iv low)) (ev rfl)).mono ?_; rintro _ _ ⟨rfl, rfl⟩
    exact ⟨rfl, Ext.refl _⟩
  refine RW_d (fun v5 => [(Iv n), (Iv low), (Iv high), Ud, Ud, Ud, (Bo false), v3, v4, v5, Ud, Ud, Ud, Ud, Ud]) rfl (fun _ => rfl) (fun u hu hF => ?_) (fun v5 => ?_)
  · have h7_ : v3 = (Iv n) := hF.1
    have h8_ : v4 = (Iv low) := hF.2.1
    clear hF
    refine doesG_un rfl ?_
    obtain rfl := h7_
    obtain rfl := h8_
    refine (does_icmp (p := n) (q := low) (.inr (.inr (.inr (.inr (.inr rfl))))) (ev rfl) (ev rfl)).mono ?_; rintro _ _ ⟨rfl, rfl⟩
    exact ⟨rfl, Ext.refl _⟩
  refine RW_d (fun v6 => [(Iv n), (Iv low), (Iv high), Ud, Ud, Ud, (Bo false), v3, v4, v5, v6, Ud, Ud, Ud, Ud]) rfl (fun _ => rfl) (fun u hu hF => ?_) (fun v6 => ?_)
  · have h9_ : v5 = (Bo (icmp .geq n low)) := hF.1
    clear hF
    refine doesG_un rfl ?_
    obtain rfl := h9_
    refine (does_move (u := (Bo (icmp .geq n low))) (ev rfl)).mono ?_; rintro _ _ ⟨rfl, rfl⟩
    exact ⟨rfl, Ext.refl _⟩
  refine RW_d (fun v7 => [(Iv n), (Iv low), (Iv high), Ud, Ud, Ud, (Bo false), v3, v4, v5, v6, v7, Ud, Ud, Ud]) rfl (fun _ => rfl) (fun u hu hF => ?_) (fun v7 => ?_)
  · have h10_ : v6 = (Bo (icmp .geq n low)) := hF.1
    clear hF
    obtain rfl := h10_
    refine doesG_g (b := (icmp .geq n low)) rfl (yld rfl rfl) (fun hg1 => ?_) (fun hc => ⟨fun hg1 => absurd hg1 hc, Ext.refl _⟩)
    refine (does_move (u := (Iv n)) (ev rfl)).mono ?_; rintro _ _ ⟨rfl, rfl⟩
    exact ⟨fun _ => rfl, Ext.refl _⟩
  refine RW_d (fun v8 => [(Iv n), (Iv low), (Iv high), Ud, Ud, Ud, (Bo false), v3, v4, v5, v6, v7, v8, Ud, Ud]) rfl (fun _ => rfl) (fun u hu hF => ?_) (fun v8 => ?_)
  · have h10_ : v6 = (Bo (icmp .geq n low)) := hF.1
    clear hF
    obtain rfl := h10_
    refine doesG_g (b := (icmp .geq n low)) rfl (yld rfl rfl) (fun hg1 => ?_) (fun hc => ⟨fun hg1 => absurd hg1 hc, Ext.refl _⟩)
    refine (does_move (u := (Iv high)) (ev rfl)).mono ?_; rintro _ _ ⟨rfl, rfl⟩
    exact ⟨fun _ => rfl, Ext.refl _⟩
  refine RW_d (fun v9 => [(Iv n), (Iv low), (Iv high), Ud, Ud, Ud, (Bo false), v3, v4, v5, v6, v7, v8, v9, Ud]) rfl (fun _ => rfl) (fun u hu hF => ?_) (fun v9 => ?_)
  · have h11_ : (icmp .geq n low) = true → v7 = (Iv n) := hF.1
    have h12_ : (icmp .geq n low) = true → v8 = (Iv high) := hF.2.1
    have h10_ : v6 = (Bo (icmp .geq n low)) := hF.2.2.1
    clear hF
    obtain rfl := h10_
    refine doesG_g (b := (icmp .geq n low)) rfl (yld rfl rfl) (fun hg1 => ?_) (fun hc => ⟨fun hg1 => absurd hg1 hc, Ext.refl _⟩)
    obtain rfl := h11_ hg1
    obtain rfl := h12_ hg1
    refine (does_icmp (p := n) (q := high) (.inr (.inr (.inr (.inl rfl)))) (ev rfl) (ev rfl)).mono ?_; rintro _ _ ⟨rfl, rfl⟩
    exact ⟨fun _ => rfl, Ext.refl _⟩
  refine RW_d (fun v10 => [(Iv n), (Iv low), (Iv high), Ud, Ud, Ud, (Bo false), v3, v4, v5, v6, v7, v8, v9, v10]) rfl (fun _ => rfl) (fun u hu hF => ?_) (fun v10 => ?_)
  · have h10_ : v6 = (Bo (icmp .geq n low)) := hF.1
    have h13_ : (icmp .geq n low) = true → v9 = (Bo (icmp .leq n high)) := hF.2.1
    clear hF
    refine doesG_un rfl ?_
    skip
    obtain rfl := h10_
    refine (does_pick (b := (icmp .geq n low)) (u := v9) (v := (Bo false)) (ev rfl) (ev rfl) (ev rfl)).mono ?_; rintro _ _ ⟨rfl, rfl⟩; refine ⟨?_, Ext.refl _⟩; rw [hβ1]; skip
    cases hbb : (icmp .geq n low)
    all_goals first | (show _ = _; simp only [↓reduceIte, Bool.true_and, Bool.false_and, Bool.true_or, Bool.false_or, Bool.false_eq_true]; done) | (have e_ := h13_ hbb; subst e_; show _ = _; simp only [↓reduceIte, Bool.true_and, Bool.false_and, Bool.true_or, Bool.false_or, Bool.false_eq_true]; done) | rfl | (have e_ := h13_ hbb; subst e_; rfl) | (simp [hbb] at h13_ ⊢; first | done | rfl | (subst h13_; rfl) | simp_all) | (simp [hbb] at h13_ ⊢; done)
  refine RW_fin ?_; intro w11 E12 hP13
  obtain ⟨⟨⟨⟨⟨⟨⟨⟨-, -⟩, -⟩, -⟩, -⟩, -⟩, -⟩, -⟩, q14⟩ := hP13
  have X15 := Ext.gr (Ext.refl w) E12
  have q14 : v10 = (Bo β1) := q14
  obtain rfl := q14
  show wpList _ _ _ _ (fr [(Iv n), (Iv low), (Iv high), Ud, Ud, Ud, (Bo false), v3, v4, v5, v6, v7, v8, v9, (Bo β1)]) _
  refine q_is (l' := [(Iv n), (Iv low), (Iv high), Ud, Ud, Ud, (Bo β1), v3, v4, v5, v6, v7, v8, v9, (Bo β1)]) rfl rfl (does_assign (u := (Bo β1)) (ev rfl)) rfl ?_
  refine wpList_nil (hK2 _ _ ?_)
  refine wp_ret ?_
  refine ret_val (v := (Bo β1)) (res_T rfl (slot rfl)) X15 ?_
  have x16 : (inI n low high) = β1 := by first | with_reducible rfl | (simp only [inI, hβ1]; done) | (simp [inI, hβ1]; done) | rfl
  exact (by first | with_reducible rfl | rw [x16] | rfl)

/- slices.IndexFunc[[]float32,float32] -/
theorem c_slices_IndexFunc_float32_float32 (xs : Value) (L_xs : List Nat) (f : Value) (pr_f : Nat → Bool) (w : World) (hv_xs : Sl RF 1 w xs L_xs) (hv_f : TellsF Try.prog f w pr_f) : Gives Try.prog 103 #[xs, f] w (fun v w' => v = (Iv (findI pr_f L_xs))) := by
  have hlen_xs := Sl.len hv_xs; obtain ⟨p_xs, q_xs, rfl⟩ := Sl.shape hv_xs
  obtain ⟨f_f, s_f, c_f, rfl, hcal_f, hg_f⟩ := hv_f
  refine enter [(.slice p_xs L_xs.length q_xs), (.func (.func f_f) s_f c_f), Ud, Ud, Ud, Ud, Ud, Ud, Ud, Ud, Ud, Ud, Ud, Ud, Ud, Ud, Ud, Ud, Ud] Try.func103 rfl Try.ntmps103 rfl ?_
  refine wp_seq_k fun K1 hK1 => ?_
  refine wp_region_lit ?_
  refine q_is (l' := [(.slice p_xs L_xs.length q_xs), (.func (.func f_f) s_f c_f), Ud, Ud, (Iv 0), Ud, Ud, Ud, Ud, Ud, Ud, Ud, Ud, Ud, Ud, Ud, Ud, Ud, Ud]) rfl rfl (does_assign (u := (Iv 0)) (ev rfl)) rfl ?_
  refine wpList_nil (hK1 _ _ ?_)
  refine wp_seq_k fun K2 hK2 => ?_
  refine wp_seq_k fun K3 hK3 => ?_
  refine wp_region_lit ?_
  refine q_is (l' := [(.slice p_xs L_xs.length q_xs), (.func (.func f_f) s_f c_f), Ud, Ud, (Iv 0), Ud, (.slice p_xs L_xs.length q_xs), Ud, Ud, Ud, Ud, Ud, Ud, Ud, Ud, Ud, Ud, Ud, Ud]) rfl rfl (does_move (u := (.slice p_xs L_xs.length q_xs)) (ev rfl)) rfl ?_
  refine q_is (l' := [(.slice p_xs L_xs.length q_xs), (.func (.func f_f) s_f c_f), Ud, Ud, (Iv 0), Ud, (.slice p_xs L_xs.length q_xs), (Iv (L_xs.length : Int)), Ud, Ud, Ud, Ud, Ud, Ud, Ud, Ud, Ud, Ud, Ud]) rfl rfl (does_len_slice Try.underlying97 (ev rfl)) rfl ?_
  refine q_is (l' := [(.slice p_xs L_xs.length q_xs), (.func (.func f_f) s_f c_f), Ud, Ud, (Iv 0), Ud, (.slice p_xs L_xs.length q_xs), (Iv (L_xs.length : Int)), (Iv 0), Ud, Ud, Ud, Ud, Ud, Ud, Ud, Ud, Ud, Ud]) rfl rfl (does_move (u := (Iv 0)) (ev rfl)) rfl ?_
  refine wpList_nil (hK3 _ _ ?_)
  refine wp_block ?_
  refine loop_ghost (σ := Nat) (fun k a w' => ∃ u4 : Nat → Value, a = fr [(.slice p_xs L_xs.length q_xs), (.func (.func f_f) s_f c_f), Ud, Ud, (u4 4), (u4 5), (.slice p_xs L_xs.length q_xs), (Iv (L_xs.length : Int)), (Iv (k : Int)), (u4 9), (u4 10), (u4 11), (u4 12), (u4 13), (u4 14), (u4 15), (u4 16), (u4 17), (u4 18)] ∧ Ext w w' ∧ (k ≤ L_xs.length ∧ NoneTo pr_f L_xs k)) (fun k => L_xs.length - k) 0 ?_ ?_
  · refine ⟨fun t => (([(.slice p_xs L_xs.length q_xs), (.func (.func f_f) s_f c_f), Ud, Ud, (Iv 0), Ud, (.slice p_xs L_xs.length q_xs), (Iv (L_xs.length : Int)), (Iv 0), Ud, Ud, Ud, Ud, Ud, Ud, Ud, Ud, Ud, Ud] : List Value)[t]?).getD undef, rfl, Ext.refl _, ?_⟩
    exact ⟨Nat.zero_le _, NoneTo.zero⟩
  · rintro k a w5 ⟨u4, rfl, E6, ⟨hk, hno⟩⟩
    have X8 := Ext.gr (Ext.refl w) E6
    refine wp_seq_k fun K9 hK9 => ?_
    refine wp_region_lit ?_
    refine q_is (l' := [(.slice p_xs L_xs.length q_xs), (.func (.func f_f) s_f c_f), Ud, Ud, (u4 4), (u4 5), (.slice p_xs L_xs.length q_xs), (Iv (L_xs.length : Int)), (Iv (k : Int)), (Bo (icmp .lss (k : Int) (L_xs.length : Int))), (u4 10), (u4 11), (u4 12), (u4 13), (u4 14), (u4 15), (u4 16), (u4 17), (u4 18)]) rfl rfl (does_icmp (p := (k : Int)) (q := (L_xs.length : Int)) (.inr (.inr (.inl rfl))) (ev rfl) (ev rfl)) rfl ?_
    refine wpList_nil (hK9 _ _ ?_)
    refine wp_seq_k fun K10 hK10 => ?_
    refine wp_cond_split (t := icmp .lss (k : Int) (L_xs.length : Int)) (ev rfl) (fun c11 => ?_) (fun c11 => ?_)
    · have c11' := c11
      (try simp only [icmp, Bool.and_eq_true, Bool.or_eq_true, Bool.and_eq_false_iff, Bool.or_eq_false_iff, Bool.not_eq_true', Bool.not_eq_false', decide_eq_true_eq, decide_eq_false_iff_not, beq_iff_eq, bne_iff_ne, beq_eq_false_iff_ne, bne_eq_false_iff_eq] at c11')
      refine wp_skip (hK10 _ _ ?_)
      refine wp_seq_k fun K12 hK12 => ?_
      refine wp_block ?_
      refine wp_seq_k fun K13 hK13 => ?_
      refine wp_region_lit ?_
      refine q_is (l' := [(.slice p_xs L_xs.length q_xs), (.func (.func f_f) s_f c_f), Ud, Ud, (u4 4), (u4 5), (.slice p_xs L_xs.length q_xs), (Iv (L_xs.length : Int)), (Iv (k : Int)), (Bo (icmp .lss (k : Int) (L_xs.length : Int))), (Iv (k : Int)), (u4 11), (u4 12), (u4 13), (u4 14), (u4 15), (u4 16), (u4 17), (u4 18)]) rfl rfl (does_move (u := (Iv (k : Int))) (ev rfl)) rfl ?_
      refine q_is (l' := [(.slice p_xs L_xs.length q_xs), (.func (.func f_f) s_f c_f), Ud, Ud, (u4 4), (Iv (k : Int)), (.slice p_xs L_xs.length q_xs), (Iv (L_xs.length : Int)), (Iv (k : Int)), (Bo (icmp .lss (k : Int) (L_xs.length : Int))), (Iv (k : Int)), (u4 11), (u4 12), (u4 13), (u4 14), (u4 15), (u4 16), (u4 17), (u4 18)]) rfl rfl (does_assign (u := (Iv (k : Int))) (ev rfl)) rfl ?_
      refine wpList_nil (hK13 _ _ ?_)
      refine wp_seq_k fun K14 hK14 => ?_
      refine wp_region_lit ?_
      refine q_is (l' := [(.slice p_xs L_xs.length q_xs), (.func (.func f_f) s_f c_f), Ud, Ud, (u4 4), (Iv (k : Int)), (.slice p_xs L_xs.length q_xs), (Iv (L_xs.length : Int)), (Iv (k : Int)), (Bo (icmp .lss (k : Int) (L_xs.length : Int))), (Iv (k : Int)), (.func (.func f_f) s_f c_f), (u4 12), (u4 13), (u4 14), (u4 15), (u4 16), (u4 17), (u4 18)]) rfl rfl (does_move (u := (.func (.func f_f) s_f c_f)) (ev rfl)) rfl ?_
      refine q_is (l' := [(.slice p_xs L_xs.length q_xs), (.func (.func f_f) s_f c_f), Ud, Ud, (u4 4), (Iv (k : Int)), (.slice p_xs L_xs.length q_xs), (Iv (L_xs.length : Int)), (Iv (k : Int)), (Bo (icmp .lss (k : Int) (L_xs.length : Int))), (Iv (k : Int)), (.func (.func f_f) s_f c_f), (.slice p_xs L_xs.length q_xs), (u4 13), (u4 14), (u4 15), (u4 16), (u4 17), (u4 18)]) rfl rfl (does_move (u := (.slice p_xs L_xs.length q_xs)) (ev rfl)) rfl ?_
      refine q_is (l' := [(.slice p_xs L_xs.length q_xs), (.func (.func f_f) s_f c_f), Ud, Ud, (u4 4), (Iv (k : Int)), (.slice p_xs L_xs.length q_xs), (Iv (L_xs.length : Int)), (Iv (k : Int)), (Bo (icmp .lss (k : Int) (L_xs.length : Int))), (Iv (k : Int)), (.func (.func f_f) s_f c_f), (.slice p_xs L_xs.length q_xs), (Iv (k : Int)), (u4 14), (u4 15), (u4 16), (u4 17), (u4 18)]) rfl rfl (does_move (u := (Iv (k : Int))) (ev rfl)) rfl ?_
      obtain ⟨el1, hel1⟩ : ∃ e, L_xs[k]? = some e := ⟨_, List.getElem?_eq_getElem (by omega)⟩
      refine seqd rfl rfl (does_indexSl (R := RF) (i := (k : Int)) (xs := L_xs) (e := el1) Try.underlying97 Try.sizeOf38 (ev rfl) (ev rfl) (Sl.ext hv_xs RF.mono X8) (by omega) hel1) ?_; rintro _ w5 ⟨b15, o16, _, rfl, hc18, ⟨r19, rfl, h20⟩, rfl⟩
      show wpList _ _ _ _ (fr [(.slice p_xs L_xs.length q_xs), (.func (.func f_f) s_f c_f), Ud, Ud, (u4 4), (Iv (k : Int)), (.slice p_xs L_xs.length q_xs), (Iv (L_xs.length : Int)), (Iv (k : Int)), (Bo (icmp .lss (k : Int) (L_xs.length : Int))), (Iv (k : Int)), (.func (.func f_f) s_f c_f), (.slice p_xs L_xs.length q_xs), (Iv (k : Int)), (Pt b15 o16), (u4 15), (u4 16), (u4 17), (u4 18)]) _
      refine q_is (l' := [(.slice p_xs L_xs.length q_xs), (.func (.func f_f) s_f c_f), Ud, Ud, (u4 4), (Iv (k : Int)), (.slice p_xs L_xs.length q_xs), (Iv (L_xs.length : Int)), (Iv (k : Int)), (Bo (icmp .lss (k : Int) (L_xs.length : Int))), (Iv (k : Int)), (.func (.func f_f) s_f c_f), (.slice p_xs L_xs.length q_xs), (Iv (k : Int)), (Pt b15 o16), (Fl r19), (u4 16), (u4 17), (u4 18)]) rfl rfl (does_load (u := (Fl r19)) (ev rfl) Try.isAgg38 (Cells.at hc18 0 rfl)) rfl ?_
      refine seqd rfl rfl (does_callf (args := #[(Fl r19)]) (ev rfl) hcal_f (evs rfl) (hg_f r19 _ X8)) ?_; rintro _ w22 ⟨E21, rfl⟩
      have X23 := Ext.gr X8 E21
      show wpList _ _ _ _ (fr [(.slice p_xs L_xs.length q_xs), (.func (.func f_f) s_f c_f), Ud, Ud, (u4 4), (Iv (k : Int)), (.slice p_xs L_xs.length q_xs), (Iv (L_xs.length : Int)), (Iv (k : Int)), (Bo (icmp .lss (k : Int) (L_xs.length : Int))), (Iv (k : Int)), (.func (.func f_f) s_f c_f), (.slice p_xs L_xs.length q_xs), (Iv (k : Int)), (Pt b15 o16), (Fl r19), (Bo (pr_f (cf .f32 r19))), (u4 17), (u4 18)]) _
      refine wpList_nil (hK14 _ _ ?_)
      refine wp_cond_split (t := pr_f (cf .f32 r19)) (ev rfl) (fun c24 => ?_) (fun c24 => ?_)
      · have c24' := c24
        refine wp_seq_k fun K25 hK25 => ?_
        refine wp_region_lit ?_
        refine q_is (l' := [(.slice p_xs L_xs.length q_xs), (.func (.func f_f) s_f c_f), Ud, Ud, (u4 4), (Iv (k : Int)), (.slice p_xs L_xs.length q_xs), (Iv (L_xs.length : Int)), (Iv (k : Int)), (Bo (icmp .lss (k : Int) (L_xs.length : Int))), (Iv (k : Int)), (.func (.func f_f) s_f c_f), (.slice p_xs L_xs.length q_xs), (Iv (k : Int)), (Pt b15 o16), (Fl r19), (Bo (pr_f (cf .f32 r19))), (Iv (k : Int)), (u4 18)]) rfl rfl (does_move (u := (Iv (k : Int))) (ev rfl)) rfl ?_
        refine q_is (l' := [(.slice p_xs L_xs.length q_xs), (.func (.func f_f) s_f c_f), Ud, Ud, (Iv (k : Int)), (Iv (k : Int)), (.slice p_xs L_xs.length q_xs), (Iv (L_xs.length : Int)), (Iv (k : Int)), (Bo (icmp .lss (k : Int) (L_xs.length : Int))), (Iv (k : Int)), (.func (.func f_f) s_f c_f), (.slice p_xs L_xs.length q_xs), (Iv (k : Int)), (Pt b15 o16), (Fl r19), (Bo (pr_f (cf .f32 r19))), (Iv (k : Int)), (u4 18)]) rfl rfl (does_assign (u := (Iv (k : Int))) (ev rfl)) rfl ?_
        refine wpList_nil (hK25 _ _ ?_)
        refine wp_ret ?_
        dsimp only [Exit.then, Exit.inBlock]
        refine ret_val (v := (Iv (k : Int))) (res_T rfl (slot rfl)) X23 ?_
        try simp only [hel1, h20] at c11 c24
        have x26 : (findI pr_f L_xs : Int) = (k : Int) := by first | exact findI_at hno (by assumption) (by simp_all) | exact findI_none hno (by omega)
        exact (by first | with_reducible rfl | rw [x26] | rfl)
      have c24' := c24
      refine wp_skip (hK12 _ _ ?_)
      refine wp_region_lit ?_
      refine q_is (l' := [(.slice p_xs L_xs.length q_xs), (.func (.func f_f) s_f c_f), Ud, Ud, (u4 4), (Iv (k : Int)), (.slice p_xs L_xs.length q_xs), (Iv (L_xs.length : Int)), (Iv (k : Int)), (Bo (icmp .lss (k : Int) (L_xs.length : Int))), (Iv (k : Int)), (.func (.func f_f) s_f c_f), (.slice p_xs L_xs.length q_xs), (Iv (k : Int)), (Pt b15 o16), (Fl r19), (Bo (pr_f (cf .f32 r19))), (u4 17), (Iv ((k : Int) + 1))]) rfl rfl (does_iarith (p := (k : Int)) (q := 1) (r := (k : Int) + 1) (ev rfl) (ev rfl) (.inl ⟨rfl, (in_i64 (by omega) (by omega)).symm⟩)) rfl ?_
      refine q_is (l' := [(.slice p_xs L_xs.length q_xs), (.func (.func f_f) s_f c_f), Ud, Ud, (u4 4), (Iv (k : Int)), (.slice p_xs L_xs.length q_xs), (Iv (L_xs.length : Int)), (Iv ((k : Int) + 1)), (Bo (icmp .lss (k : Int) (L_xs.length : Int))), (Iv (k : Int)), (.func (.func f_f) s_f c_f), (.slice p_xs L_xs.length q_xs), (Iv (k : Int)), (Pt b15 o16), (Fl r19), (Bo (pr_f (cf .f32 r19))), (u4 17), (Iv ((k : Int) + 1))]) rfl rfl (does_move (u := (Iv ((k : Int) + 1))) (ev rfl)) rfl ?_
      refine wpList_nil ?_
      refine ⟨k + 1, ⟨fun t => (([(.slice p_xs L_xs.length q_xs), (.func (.func f_f) s_f c_f), Ud, Ud, (u4 4), (Iv (k : Int)), (.slice p_xs L_xs.length q_xs), (Iv (L_xs.length : Int)), (Iv ((k : Int) + 1)), (Bo (icmp .lss (k : Int) (L_xs.length : Int))), (Iv (k : Int)), (.func (.func f_f) s_f c_f), (.slice p_xs L_xs.length q_xs), (Iv (k : Int)), (Pt b15 o16), (Fl r19), (Bo (pr_f (cf .f32 r19))), (u4 17), (Iv ((k : Int) + 1))] : List Value)[t]?).getD undef, ?_, (Ext.gr E6 E21), ?_⟩, ?_⟩
      · first | rfl | (simp only [Nat.cast_add, Nat.cast_one, Int.natCast_add, Int.natCast_one]; rfl)
      · exact ⟨by omega, NoneTo.step hno (by assumption) (by simp_all)⟩
      · omega
    have c11' := c11
    (try simp only [icmp, Bool.and_eq_true, Bool.or_eq_true, Bool.and_eq_false_iff, Bool.or_eq_false_iff, Bool.not_eq_true', Bool.not_eq_false', decide_eq_true_eq, decide_eq_false_iff_not, beq_iff_eq, bne_iff_ne, beq_eq_false_iff_ne, bne_eq_false_iff_eq] at c11')
    refine wp_exit ?_
    refine hK2 _ _ ?_
    refine wp_seq_k fun K27 hK27 => ?_
    refine wp_region_lit ?_
    refine q_is (l' := [(.slice p_xs L_xs.length q_xs), (.func (.func f_f) s_f c_f), Ud, Ud, (Iv (-1)), (u4 5), (.slice p_xs L_xs.length q_xs), (Iv (L_xs.length : Int)), (Iv (k : Int)), (Bo (icmp .lss (k : Int) (L_xs.length : Int))), (u4 10), (u4 11), (u4 12), (u4 13), (u4 14), (u4 15), (u4 16), (u4 17), (u4 18)]) rfl rfl (does_assign (u := (Iv (-1))) (ev rfl)) rfl ?_
    refine wpList_nil (hK27 _ _ ?_)
    refine wp_ret ?_
    refine ret_val (v := (Iv (-1))) (res_T rfl (slot rfl)) X8 ?_
    have x28 : (findI pr_f L_xs : Int) = (-1) := by first | exact findI_at hno (by assumption) (by simp_all) | exact findI_none hno (by omega)
    exact (by first | with_reducible rfl | rw [x28] | rfl)

/- slices.ContainsFunc[[]float32,float32] -/
theorem c_slices_ContainsFunc_float32_float32 (xs : Value) (L_xs : List Nat) (f : Value) (pr_f : Nat → Bool) (w : World) (hv_xs : Sl RF 1 w xs L_xs) (hv_f : TellsF Try.prog f w pr_f) : Gives Try.prog 86 #[xs, f] w (fun v w' => v = (Bo (L_xs.any pr_f))) := by
  have hlen_xs := Sl.len hv_xs; obtain ⟨p_xs, q_xs, rfl⟩ := Sl.shape hv_xs
  obtain ⟨f_f, s_f, c_f, rfl, hcal_f, hg_f⟩ := hv_f
  refine enter [(.slice p_xs L_xs.length q_xs), (.func (.func f_f) s_f c_f), Ud, Ud, Ud, Ud, Ud, Ud, Ud] Try.func86 rfl Try.ntmps86 rfl ?_
  refine wp_seq_k fun K1 hK1 => ?_
  refine wp_region_lit ?_
  refine q_is (l' := [(.slice p_xs L_xs.length q_xs), (.func (.func f_f) s_f c_f), Ud, Ud, (Bo false), Ud, Ud, Ud, Ud]) rfl rfl (does_assign (u := (Bo false)) (ev rfl)) rfl ?_
  refine wpList_nil (hK1 _ _ ?_)
  refine wp_seq_k fun K2 hK2 => ?_
  refine wp_region_lit ?_
  refine q_is (l' := [(.slice p_xs L_xs.length q_xs), (.func (.func f_f) s_f c_f), Ud, Ud, (Bo false), (.slice p_xs L_xs.length q_xs), Ud, Ud, Ud]) rfl rfl (does_move (u := (.slice p_xs L_xs.length q_xs)) (ev rfl)) rfl ?_
  refine q_is (l' := [(.slice p_xs L_xs.length q_xs), (.func (.func f_f) s_f c_f), Ud, Ud, (Bo false), (.slice p_xs L_xs.length q_xs), (.func (.func f_f) s_f c_f), Ud, Ud]) rfl rfl (does_move (u := (.func (.func f_f) s_f c_f)) (ev rfl)) rfl ?_
  refine seqd rfl rfl (does_call (args := #[(.slice p_xs L_xs.length q_xs), (.func (.func f_f) s_f c_f)]) cal103 (evs rfl) (c_slices_IndexFunc_float32_float32 (.slice p_xs L_xs.length q_xs) L_xs (.func (.func f_f) s_f c_f) pr_f _ hv_xs ⟨_, _, _, rfl, hcal_f, fun r u hu' => hg_f r u (Ext.gr (Ext.refl w) hu')⟩)) ?_; rintro _ w4 ⟨E3, rfl⟩
  have X5 := Ext.gr (Ext.refl w) E3
  show wpList _ _ _ _ (fr [(.slice p_xs L_xs.length q_xs), (.func (.func f_f) s_f c_f), Ud, Ud, (Bo false), (.slice p_xs L_xs.length q_xs), (.func (.func f_f) s_f c_f), (Iv (findI pr_f L_xs)), Ud]) _
  refine q_is (l' := [(.slice p_xs L_xs.length q_xs), (.func (.func f_f) s_f c_f), Ud, Ud, (Bo false), (.slice p_xs L_xs.length q_xs), (.func (.func f_f) s_f c_f), (Iv (findI pr_f L_xs)), (Bo (icmp .geq (findI pr_f L_xs) 0))]) rfl rfl (does_icmp (p := findI pr_f L_xs) (q := 0) (.inr (.inr (.inr (.inr (.inr rfl))))) (ev rfl) (ev rfl)) rfl ?_
  refine q_is (l' := [(.slice p_xs L_xs.length q_xs), (.func (.func f_f) s_f c_f), Ud, Ud, (Bo (icmp .geq (findI pr_f L_xs) 0)), (.slice p_xs L_xs.length q_xs), (.func (.func f_f) s_f c_f), (Iv (findI pr_f L_xs)), (Bo (icmp .geq (findI pr_f L_xs) 0))]) rfl rfl (does_assign (u := (Bo (icmp .geq (findI pr_f L_xs) 0))) (ev rfl)) rfl ?_
  refine wpList_nil (hK2 _ _ ?_)
  refine wp_ret ?_
  refine ret_val (v := (Bo (icmp .geq (findI pr_f L_xs) 0))) (res_T rfl (slot rfl)) X5 ?_
  have x6 : (L_xs.any pr_f) = (icmp .geq (findI pr_f L_xs) 0) := by first | with_reducible rfl | (simp only [findI_any]; done) | (simp [findI_any]; done) | rfl
  exact (by first | with_reducible rfl | rw [x6] | rfl)

/- impl.IsFinite -/
theorem c_impl_IsFinite (x : Nat) (w : World) : Gives Try.prog 78 #[(Fl x)] w (fun v w' => v = (Bo (finF (cf .f32 x)))) := by
  refine enter [(Fl x), Ud, Ud, Ud, Ud, Ud, Ud] Try.func78 rfl Try.ntmps78 rfl ?_
  refine wp_seq_k fun K1 hK1 => ?_
  refine wp_region_lit ?_
  refine q_is (l' := [(Fl x), Ud, (Bo false), Ud, Ud, Ud, Ud]) rfl rfl (does_assign (u := (Bo false)) (ev rfl)) rfl ?_
  refine wpList_nil (hK1 _ _ ?_)
  refine wp_seq_k fun K2 hK2 => ?_
  refine wp_region_lit ?_
  refine q_is (l' := [(Fl x), Ud, (Bo false), (Fl x), Ud, Ud, Ud]) rfl rfl (does_move (u := (Fl x)) (ev rfl)) rfl ?_
  refine q_is (l' := [(Fl x), Ud, (Bo false), (Fl x), (Fl x), Ud, Ud]) rfl rfl (does_move (u := (Fl x)) (ev rfl)) rfl ?_
  refine seqd rfl rfl (does_float (.inr (.inl rfl)) (ev rfl) (ev rfl)) ?_; rintro _ w6 ⟨r3, rfl, h4, E5⟩
  have X7 := Ext.gr (Ext.refl w) E5
  show wpList _ _ _ _ (fr [(Fl x), Ud, (Bo false), (Fl x), (Fl x), (Fl r3), Ud]) _
  refine q_is (l' := [(Fl x), Ud, (Bo false), (Fl x), (Fl x), (Fl r3), (Bo (fcmp .eql (ford .f32 (cf .f32 r3) (cf .f32 0))))]) rfl rfl (does_fcmp (.inl rfl) (ev rfl) (ev rfl)) rfl ?_
  refine q_is (l' := [(Fl x), Ud, (Bo (fcmp .eql (ford .f32 (cf .f32 r3) (cf .f32 0)))), (Fl x), (Fl x), (Fl r3), (Bo (fcmp .eql (ford .f32 (cf .f32 r3) (cf .f32 0))))]) rfl rfl (does_assign (u := (Bo (fcmp .eql (ford .f32 (cf .f32 r3) (cf .f32 0))))) (ev rfl)) rfl ?_
  refine wpList_nil (hK2 _ _ ?_)
  refine wp_ret ?_
  refine ret_val (v := (Bo (fcmp .eql (ford .f32 (cf .f32 r3) (cf .f32 0))))) (res_T rfl (slot rfl)) X7 ?_
  have x8 : (finF (cf .f32 x)) = (fcmp .eql (ford .f32 (cf .f32 r3) (cf .f32 0))) := by first | with_reducible rfl | (simp only [finF, h4]; done) | (simp [finF, h4]; done) | rfl
  exact (by first | with_reducible rfl | rw [x8] | rfl)

/- impl.finite$1 -/
theorem c_impl_finite_1 (x : Nat) (w : World) : Gives Try.prog 100 #[(Fl x)] w (fun v w' => v = (Bo (!finF (cf .f32 x)))) := by
  refine enter [(Fl x), Ud, Ud, Ud, Ud, Ud] Try.func100 rfl Try.ntmps100 rfl ?_
  refine wp_seq_k fun K1 hK1 => ?_
  refine wp_region_lit ?_
  refine q_is (l' := [(Fl x), Ud, (Bo false), Ud, Ud, Ud]) rfl rfl (does_assign (u := (Bo false)) (ev rfl)) rfl ?_
  refine wpList_nil (hK1 _ _ ?_)
  refine wp_seq_k fun K2 hK2 => ?_
  refine wp_region_lit ?_
  refine q_is (l' := [(Fl x), Ud, (Bo false), (Fl x), Ud, Ud]) rfl rfl (does_move (u := (Fl x)) (ev rfl)) rfl ?_
  refine seqd rfl rfl (does_call (args := #[(Fl x)]) cal78 (evs rfl) (c_impl_IsFinite x _)) ?_; rintro _ w4 ⟨E3, rfl⟩
  have X5 := Ext.gr (Ext.refl w) E3
  show wpList _ _ _ _ (fr [(Fl x), Ud, (Bo false), (Fl x), (Bo (finF (cf .f32 x))), Ud]) _
  refine q_is (l' := [(Fl x), Ud, (Bo false), (Fl x), (Bo (finF (cf .f32 x))), (Bo (!(finF (cf .f32 x))))]) rfl rfl (does_not (ev rfl)) rfl ?_
  refine q_is (l' := [(Fl x), Ud, (Bo (!(finF (cf .f32 x)))), (Fl x), (Bo (finF (cf .f32 x))), (Bo (!(finF (cf .f32 x))))]) rfl rfl (does_assign (u := (Bo (!(finF (cf .f32 x))))) (ev rfl)) rfl ?_
  refine wpList_nil (hK2 _ _ ?_)
  refine wp_ret ?_
  refine ret_val (v := (Bo (!(finF (cf .f32 x))))) (res_T rfl (slot rfl)) X5 ?_
  have x6 : (!finF (cf .f32 x)) = (!(finF (cf .f32 x))) := by first | with_reducible rfl | (simp only []; done) | (simp []; done) | rfl
  exact (by first | with_reducible rfl | rw [x6] | rfl)

end Go.Proofs.Ytiagimgdjngnfaa
