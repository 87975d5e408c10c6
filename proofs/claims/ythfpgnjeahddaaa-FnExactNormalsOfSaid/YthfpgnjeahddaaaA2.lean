/- contracts of functions, each walked once -/
import Derived.Test.YthfpgnjeahddaaaA
namespace Go.Proofs.Ythfpgnjeahddaaa
open Go Go.RowKit
set_option maxRecDepth 100000
set_option maxHeartbeats 3200000
set_option linter.unusedVariables false
set_option linter.unusedSimpArgs false

/- spec.l07Is -/
theorem c_spec_l07Is (m_b : Nat) (m_o : Nat) (m : List Value) (A_m : MeshT) (w : World) (hc_m : Cells w m_b m_o m) (hv_m : RMeshT w A_m m) : Gives Try.prog 19 #[(Pt m_b m_o)] w (fun v w' => v = (Bo (meshOk A_m))) := by
  obtain ⟨y1, y3, rfl, h2, h4⟩ := hv_m
  have hs7 := h2; have hs7l := Sl.len h2; obtain ⟨p5, q6, rfl⟩ := Sl.shape h2
  have hs10 := h4; have hs10l := Sl.len h4; obtain ⟨p8, q9, rfl⟩ := Sl.shape h4
  refine enter [(Pt m_b m_o), Ud, Ud, Ud, Ud, Ud, Ud, Ud, Ud, Ud, Ud, Ud, Ud, Ud, Ud, Ud, Ud, Ud, Ud, Ud, Ud, Ud, Ud, Ud, Ud, Ud, Ud, Ud, Ud, Ud, Ud, Ud, Ud, Ud, Ud, Ud, Ud, Ud, Ud, Ud, Ud, Ud, Ud, Ud, Ud, Ud, Ud, Ud, Ud, Ud, Ud, Ud, Ud, Ud, Ud, Ud, Ud, Ud, Ud, Ud, Ud, Ud, Ud, Ud, Ud, Ud, Ud, Ud, Ud, Ud, Ud, Ud, Ud, Ud, Ud, Ud, Ud, Ud, Ud, Ud, Ud, Ud, Ud, Ud, Ud, Ud, Ud, Ud, Ud, Ud, Ud, Ud, Ud, Ud] Try.func19 rfl Try.ntmps19 rfl ?_
  refine wp_seq_k fun K11 hK11 => ?_
  refine wp_region_lit ?_
  refine q_is rfl rfl (does_assign (u := (Bo false)) (ev rfl)) (by dsimp only [List.set]; try rfl) ?_
  refine wpList_nil (hK11 _ _ ?_)
  refine wp_seq_k fun K12 hK12 => ?_
  refine wp_region_lit ?_
  refine q_is rfl rfl (does_move (u := (Pt m_b m_o)) (ev rfl)) (by dsimp only [List.set]; try rfl) ?_
  refine q_is rfl rfl (does_nilCheck (ev rfl)) (by dsimp only [List.set]; try rfl) ?_
  refine q_is rfl rfl (does_fieldAddr (ev rfl) fa29_0) (by dsimp only [List.set]; try rfl) ?_
  refine q_is rfl rfl (does_load (u := (.slice p5 A_m.places.length q6)) (ev rfl) Try.isAgg27 (Cells.at hc_m 0 rfl)) (by dsimp only [List.set]; try rfl) ?_
  refine q_is rfl rfl (does_len_slice Try.underlying27 (ev rfl)) (by dsimp only [List.set]; try rfl) ?_
  refine q_is rfl rfl (does_assign (u := (Iv (A_m.places.length : Int))) (ev rfl)) (by dsimp only [List.set]; try rfl) ?_
  refine wpList_nil (hK12 _ _ ?_)
  refine wp_seq_k fun K13 hK13 => ?_
  refine wp_seq_k fun K14 hK14 => ?_
  obtain ⟨β1, hβ1⟩ : ∃ b : Bool, b = (icmp .gtr (A_m.places.length : Int) 8192) := ⟨_, rfl⟩
  obtain ⟨β2, hβ2⟩ : ∃ b : Bool, b = (icmp .gtr (A_m.tris.length : Int) 9000) := ⟨_, rfl⟩
  refine region_text (
    [Fact.pure [] (fun v => v = (Iv (A_m.places.length : Int))),
    Fact.pure [11] (fun v => v = (Bo β1)),
    Fact.pure [12] (fun v => v = (Bo β1)),
    Fact.pure [13] (fun v => β1 = false → v = (Pt m_b m_o)),
    Fact.pure [14, 13] (fun v => β1 = false → v = (Pt m_b m_o)),
    Fact.pure [15, 13] (fun v => β1 = false → v = (Pt m_b (m_o + 1))),
    Fact.pure [16, 13] (fun v => β1 = false → v = (.slice p8 A_m.tris.length q9)),
    Fact.pure [17, 13] (fun v => β1 = false → v = (Iv (A_m.tris.length : Int))),
    Fact.pure [18, 13] (fun v => β1 = false → v = (Bo β2)),
    Fact.pure [13, 19] (fun v => v = (Bo (β1 || β2)))]) (by simp [Fact.pure, Fact.mem]) ?_
  refine RW_d _ rfl (fun v => by dsimp only [List.set]; try rfl) (fun u hu hF => ?_) (fun v15 => ?_)
  · clear hF
    refine doesG_un rfl ?_
    refine (does_move (u := (Iv (A_m.places.length : Int))) (ev rfl)).mono ?_; rintro _ _ ⟨rfl, rfl⟩
    exact ⟨rfl, Ext.refl _⟩
  refine RW_d _ rfl (fun v => by dsimp only [List.set]; try rfl) (fun u hu hF => ?_) (fun v16 => ?_)
  · have h11_ : v15 = (Iv (A_m.places.length : Int)) := hF.1
    clear hF
    refine doesG_un rfl ?_
    obtain rfl := h11_
    refine (does_icmp (p := (A_m.places.length : Int)) (q := 8192) (.inr (.inr (.inr (.inr (.inl rfl))))) (ev rfl) (ev rfl)).mono ?_; rintro _ _ ⟨rfl, rfl⟩
    exact ⟨(by first | rfl | (show _ = _; simp only [hβ1]; done) | (show _ = _; simp only [hβ1]; rfl)), Ext.refl _⟩
  refine RW_d _ rfl (fun v => by dsimp only [List.set]; try rfl) (fun u hu hF => ?_) (fun v17 => ?_)
  · have h12_ : v16 = (Bo β1) := hF.1
    clear hF
    refine doesG_un rfl ?_
    obtain rfl := h12_
    refine (does_move (u := (Bo β1)) (ev rfl)).mono ?_; rintro _ _ ⟨rfl, rfl⟩
    exact ⟨rfl, Ext.refl _⟩
  refine RW_d _ rfl (fun v => by dsimp only [List.set]; try rfl) (fun u hu hF => ?_) (fun v18 => ?_)
  · have h13_ : v17 = (Bo β1) := hF.1
    clear hF
    obtain rfl := h13_
    refine doesG_g (b := β1) rfl (yld rfl rfl) (fun hg1 => ?_) (fun hc => ⟨fun hg1 => absurd hg1 hc, Ext.refl _⟩)
    refine (does_move (u := (Pt m_b m_o)) (ev rfl)).mono ?_; rintro _ _ ⟨rfl, rfl⟩
    exact ⟨fun _ => rfl, Ext.refl _⟩
  refine RW_d _ rfl (fun v => by dsimp only [List.set]; try rfl) (fun u hu hF => ?_) (fun v19 => ?_)
  · have h14_ : β1 = false → v18 = (Pt m_b m_o) := hF.1
    have h13_ : v17 = (Bo β1) := hF.2.1
    clear hF
    obtain rfl := h13_
    refine doesG_g (b := β1) rfl (yld rfl rfl) (fun hg1 => ?_) (fun hc => ⟨fun hg1 => absurd hg1 hc, Ext.refl _⟩)
    obtain rfl := h14_ hg1
    refine (does_nilCheck (ev rfl)).mono ?_; rintro _ _ ⟨rfl, rfl⟩
    exact ⟨fun _ => rfl, Ext.refl _⟩
  refine RW_d _ rfl (fun v => by dsimp only [List.set]; try rfl) (fun u hu hF => ?_) (fun v20 => ?_)
  · have h15_ : β1 = false → v19 = (Pt m_b m_o) := hF.1
    have h13_ : v17 = (Bo β1) := hF.2.1
    clear hF
    obtain rfl := h13_
    refine doesG_g (b := β1) rfl (yld rfl rfl) (fun hg1 => ?_) (fun hc => ⟨fun hg1 => absurd hg1 hc, Ext.refl _⟩)
    obtain rfl := h15_ hg1
    refine (does_fieldAddr (ev rfl) fa29_1).mono ?_; rintro _ _ ⟨rfl, rfl⟩
    exact ⟨fun _ => rfl, Ext.refl _⟩
  refine RW_d _ rfl (fun v => by dsimp only [List.set]; try rfl) (fun u hu hF => ?_) (fun v21 => ?_)
  · have h16_ : β1 = false → v20 = (Pt m_b (m_o + 1)) := hF.1
    have h13_ : v17 = (Bo β1) := hF.2.1
    clear hF
    obtain rfl := h13_
    refine doesG_g (b := β1) rfl (yld rfl rfl) (fun hg1 => ?_) (fun hc => ⟨fun hg1 => absurd hg1 hc, Ext.refl _⟩)
    obtain rfl := h16_ hg1
    refine (does_load (u := (.slice p8 A_m.tris.length q9)) (ev rfl) Try.isAgg23 (Cells.at (hc_m.ext hu) 1 rfl)).mono ?_; rintro _ _ ⟨rfl, rfl⟩
    exact ⟨fun _ => rfl, Ext.refl _⟩
  refine RW_d _ rfl (fun v => by dsimp only [List.set]; try rfl) (fun u hu hF => ?_) (fun v22 => ?_)
  · have h17_ : β1 = false → v21 = (.slice p8 A_m.tris.length q9) := hF.1
    have h13_ : v17 = (Bo β1) := hF.2.1
    clear hF
    obtain rfl := h13_
    refine doesG_g (b := β1) rfl (yld rfl rfl) (fun hg1 => ?_) (fun hc => ⟨fun hg1 => absurd hg1 hc, Ext.refl _⟩)
    obtain rfl := h17_ hg1
    refine (does_len_slice Try.underlying23 (ev rfl)).mono ?_; rintro _ _ ⟨rfl, rfl⟩
    exact ⟨fun _ => rfl, Ext.refl _⟩
  refine RW_d _ rfl (fun v => by dsimp only [List.set]; try rfl) (fun u hu hF => ?_) (fun v23 => ?_)
  · have h18_ : β1 = false → v22 = (Iv (A_m.tris.length : Int)) := hF.1
    have h13_ : v17 = (Bo β1) := hF.2.1
    clear hF
    obtain rfl := h13_
    refine doesG_g (b := β1) rfl (yld rfl rfl) (fun hg1 => ?_) (fun hc => ⟨fun hg1 => absurd hg1 hc, Ext.refl _⟩)
    obtain rfl := h18_ hg1
    refine (does_icmp (p := (A_m.tris.length : Int)) (q := 9000) (.inr (.inr (.inr (.inr (.inl rfl))))) (ev rfl) (ev rfl)).mono ?_; rintro _ _ ⟨rfl, rfl⟩
    exact ⟨fun _ => (by first | rfl | (show _ = _; simp only [hβ2]; done) | (show _ = _; simp only [hβ2]; rfl)), Ext.refl _⟩
  refine RW_d _ rfl (fun v => by dsimp only [List.set]; try rfl) (fun u hu hF => ?_) (fun v24 => ?_)
  · have h13_ : v17 = (Bo β1) := hF.1
    have h19_ : β1 = false → v23 = (Bo β2) := hF.2.1
    clear hF
    refine doesG_un rfl ?_
    skip
    obtain rfl := h13_
    refine (does_pick (b := β1) (u := (Bo true)) (v := v23) (ev rfl) (ev rfl) (ev rfl)).mono ?_; rintro _ _ ⟨rfl, rfl⟩; refine ⟨?_, Ext.refl _⟩; skip
    cases hbb : β1
    all_goals first | (show _ = _; simp only [↓reduceIte, Bool.true_and, Bool.false_and, Bool.true_or, Bool.false_or, Bool.false_eq_true]; done) | (have e_ := h19_ hbb; subst e_; show _ = _; simp only [↓reduceIte, Bool.true_and, Bool.false_and, Bool.true_or, Bool.false_or, Bool.false_eq_true]; done) | rfl | (have e_ := h19_ hbb; subst e_; rfl) | (simp [hbb] at h19_ ⊢; first | done | rfl | (subst h19_; rfl) | simp_all) | (simp [hbb] at h19_ ⊢; done)
  refine RW_fin ?_; intro w25 E26 hP27
  obtain ⟨⟨⟨⟨⟨⟨⟨⟨⟨⟨-, -⟩, -⟩, -⟩, -⟩, -⟩, -⟩, -⟩, -⟩, -⟩, q28⟩ := hP27
  have X29 := Ext.gr (Ext.refl w) E26
  have q28 : v24 = (Bo (β1 || β2)) := q28
  obtain rfl := q28
  show wpList _ _ _ _ (fr [_, _, _, _, _, _, _, _, _, _, _, _, _, _, _, _, _, _, _, _, _, _, _, _, _, _, _, _, _, _, _, _, _, _, _, _, _, _, _, _, _, _, _, _, _, _, _, _, _, _, _, _, _, _, _, _, _, _, _, _, _, _, _, _, _, _, _, _, _, _, _, _, _, _, _, _, _, _, _, _, _, _, _, _, _, _, _, _, _, _, _, _, _, _]) _
  refine wpList_nil (hK14 _ _ ?_)
  refine wp_cond_split (t := β1 || β2) (ev rfl) (fun c30 => ?_) (fun c30 => ?_)
  · have c30' := c30
    (try simp only [hβ1, hβ2] at c30')
    (try simp only [icmp, Bool.and_eq_true, Bool.or_eq_true, Bool.and_eq_false_iff, Bool.or_eq_false_iff, Bool.not_eq_true', Bool.not_eq_false', decide_eq_true_eq, decide_eq_false_iff_not, beq_iff_eq, bne_iff_ne, beq_eq_false_iff_ne, bne_eq_false_iff_eq] at c30')
    refine wp_seq_k fun K31 hK31 => ?_
    refine wp_region_lit ?_
    refine q_is rfl rfl (does_assign (u := (Bo false)) (ev rfl)) (by dsimp only [List.set]; try rfl) ?_
    refine wpList_nil (hK31 _ _ ?_)
    refine wp_ret ?_
    dsimp only [Exit.then, Exit.inBlock]
    refine ret_val (v := (Bo false)) (res_T rfl (slot rfl)) X29 ?_
    try simp only [hβ1, hβ2] at c30
    have x32 : (meshOk A_m) = false := by first | exact meshOk_big (by assumption) | exact meshOk_bad (by assumption) (triS_bad (by assumption) (by assumption) (by assumption) (by assumption)) | exact meshOk_ok (by assumption) hal (by omega)
    exact (by first | with_reducible rfl | rw [x32] | rfl)
  have c30' := c30
  (try simp only [hβ1, hβ2] at c30')
  (try simp only [icmp, Bool.and_eq_true, Bool.or_eq_true, Bool.and_eq_false_iff, Bool.or_eq_false_iff, Bool.not_eq_true', Bool.not_eq_false', decide_eq_true_eq, decide_eq_false_iff_not, beq_iff_eq, bne_iff_ne, beq_eq_false_iff_ne, bne_eq_false_iff_eq] at c30')
  refine wp_skip (hK13 _ _ ?_)
  refine wp_seq_k fun K33 hK33 => ?_
  refine wp_seq_k fun K34 hK34 => ?_
  refine wp_region_lit ?_
  refine q_is rfl rfl (does_move (u := (Pt m_b m_o)) (ev rfl)) (by dsimp only [List.set]; try rfl) ?_
  refine q_is rfl rfl (does_nilCheck (ev rfl)) (by dsimp only [List.set]; try rfl) ?_
  refine q_is rfl rfl (does_fieldAddr (ev rfl) fa29_1) (by dsimp only [List.set]; try rfl) ?_
  refine q_is rfl rfl (does_load (u := (.slice p8 A_m.tris.length q9)) (ev rfl) Try.isAgg23 (Cells.at (hc_m.ext X29) 1 rfl)) (by dsimp only [List.set]; try rfl) ?_
  refine q_is rfl rfl (does_len_slice Try.underlying23 (ev rfl)) (by dsimp only [List.set]; try rfl) ?_
  refine q_is rfl rfl (does_move (u := (Iv 0)) (ev rfl)) (by dsimp only [List.set]; try rfl) ?_
  refine wpList_nil (hK34 _ _ ?_)
  refine wp_block ?_
  refine loop_ghost (σ := Nat) (fun k a w' => ∃ u35 : Nat → Value, a = fr [(Pt m_b m_o), Ud, (u35 2), (Iv (A_m.places.length : Int)), (u35 4), (u35 5), (Pt m_b m_o), (Pt m_b m_o), (Pt m_b m_o), (.slice p5 A_m.places.length q6), (Iv (A_m.places.length : Int)), v15, v16, v17, v18, v19, v20, v21, v22, v23, (Bo (β1 || β2)), (Pt m_b m_o), (Pt m_b m_o), (Pt m_b (m_o + 1)), (.slice p8 A_m.tris.length q9), (Iv (A_m.tris.length : Int)), (Iv (k : Int)), (u35 27), (u35 28), (u35 29), (u35 30), (u35 31), (u35 32), (u35 33), (u35 34), (u35 35), (u35 36), (u35 37), (u35 38), (u35 39), (u35 40), (u35 41), (u35 42), (u35 43), (u35 44), (u35 45), (u35 46), (u35 47), (u35 48), (u35 49), (u35 50), (u35 51), (u35 52), (u35 53), (u35 54), (u35 55), (u35 56), (u35 57), (u35 58), (u35 59), (u35 60), (u35 61), (u35 62), (u35 63), (u35 64), (u35 65), (u35 66), (u35 67), (u35 68), (u35 69), (u35 70), (u35 71), (u35 72), (u35 73), (u35 74), (u35 75), (u35 76), (u35 77), (u35 78), (u35 79), (u35 80), (u35 81), (u35 82), (u35 83), (u35 84), (u35 85), (u35 86), (u35 87), (u35 88), (u35 89), (u35 90), (u35 91), (u35 92), (u35 93)] ∧ Ext w25 w' ∧ (k ≤ A_m.tris.length ∧ AllTo (triOk A_m.places.length) A_m.tris k)) (fun k => A_m.tris.length - k) 0 ?_ ?_
  · refine ⟨fun t => (([(Pt m_b m_o), Ud, (Bo false), (Iv (A_m.places.length : Int)), Ud, Ud, (Pt m_b m_o), (Pt m_b m_o), (Pt m_b m_o), (.slice p5 A_m.places.length q6), (Iv (A_m.places.length : Int)), v15, v16, v17, v18, v19, v20, v21, v22, v23, (Bo (β1 || β2)), (Pt m_b m_o), (Pt m_b m_o), (Pt m_b (m_o + 1)), (.slice p8 A_m.tris.length q9), (Iv (A_m.tris.length : Int)), (Iv 0), Ud, Ud, Ud, Ud, Ud, Ud, Ud, Ud, Ud, Ud, Ud, Ud, Ud, Ud, Ud, Ud, Ud, Ud, Ud, Ud, Ud, Ud, Ud, Ud, Ud, Ud, Ud, Ud, Ud, Ud, Ud, Ud, Ud, Ud, Ud, Ud, Ud, Ud, Ud, Ud, Ud, Ud, Ud, Ud, Ud, Ud, Ud, Ud, Ud, Ud, Ud, Ud, Ud, Ud, Ud, Ud, Ud, Ud, Ud, Ud, Ud, Ud, Ud, Ud, Ud, Ud, Ud] : List Value)[t]?).getD undef, rfl, Ext.refl _, ?_⟩
    exact ⟨Nat.zero_le _, AllTo.zero⟩
  · rintro k a w36 ⟨u35, rfl, E37, ⟨hk, hal⟩⟩
    have X39 := Ext.gr X29 E37
    refine wp_seq_k fun K40 hK40 => ?_
    refine wp_region_lit ?_
    refine q_is rfl rfl (does_icmp (p := (k : Int)) (q := (A_m.tris.length : Int)) (.inr (.inr (.inl rfl))) (ev rfl) (ev rfl)) (by dsimp only [List.set]; try rfl) ?_
    refine wpList_nil (hK40 _ _ ?_)
    refine wp_seq_k fun K41 hK41 => ?_
    refine wp_cond_split (t := icmp .lss (k : Int) (A_m.tris.length : Int)) (ev rfl) (fun c42 => ?_) (fun c42 => ?_)
    · have c42' := c42
      (try simp only [hβ1, hβ2] at c42')
      (try simp only [icmp, Bool.and_eq_true, Bool.or_eq_true, Bool.and_eq_false_iff, Bool.or_eq_false_iff, Bool.not_eq_true', Bool.not_eq_false', decide_eq_true_eq, decide_eq_false_iff_not, beq_iff_eq, bne_iff_ne, beq_eq_false_iff_ne, bne_eq_false_iff_eq] at c42')
      refine wp_skip (hK41 _ _ ?_)
      refine wp_seq_k fun K43 hK43 => ?_
      refine wp_block ?_
      refine wp_seq_k fun K44 hK44 => ?_
      refine wp_region_lit ?_
      refine q_is rfl rfl (does_move (u := (Iv (k : Int))) (ev rfl)) (by dsimp only [List.set]; try rfl) ?_
      refine q_is rfl rfl (does_assign (u := (Iv (k : Int))) (ev rfl)) (by dsimp only [List.set]; try rfl) ?_
      refine wpList_nil (hK44 _ _ ?_)
      refine wp_seq_k fun K45 hK45 => ?_
      refine wp_region_lit ?_
      refine q_is rfl rfl (does_move (u := (Pt m_b m_o)) (ev rfl)) (by dsimp only [List.set]; try rfl) ?_
      refine q_is rfl rfl (does_nilCheck (ev rfl)) (by dsimp only [List.set]; try rfl) ?_
      refine q_is rfl rfl (does_fieldAddr (ev rfl) fa29_1) (by dsimp only [List.set]; try rfl) ?_
      refine q_is rfl rfl (does_load (u := (.slice p8 A_m.tris.length q9)) (ev rfl) Try.isAgg23 (Cells.at (hc_m.ext X39) 1 rfl)) (by dsimp only [List.set]; try rfl) ?_
      refine q_is rfl rfl (does_move (u := (Iv (k : Int))) (ev rfl)) (by dsimp only [List.set]; try rfl) ?_
      obtain ⟨el1, hel1⟩ : ∃ e, A_m.tris[k]? = some e := ⟨_, List.getElem?_eq_getElem (by omega)⟩
      refine seqd rfl rfl (does_indexSl (R := (RS RI 1)) (i := (k : Int)) (xs := A_m.tris) (e := el1) Try.underlying23 Try.sizeOf44 (ev rfl) (ev rfl) (Sl.ext hs10 (RS.mono RI.mono) X39) (by omega) hel1) ?_; rintro _ w36 ⟨b46, o47, _, rfl, hc49, ⟨y50, rfl, h51⟩, rfl⟩
      have hs54 := h51; have hs54l := Sl.len h51; obtain ⟨p52, q53, rfl⟩ := Sl.shape h51
      show wpList _ _ _ _ (fr [_, _, _, _, _, _, _, _, _, _, _, _, _, _, _, _, _, _, _, _, _, _, _, _, _, _, _, _, _, _, _, _, _, _, _, _, _, _, _, _, _, _, _, _, _, _, _, _, _, _, _, _, _, _, _, _, _, _, _, _, _, _, _, _, _, _, _, _, _, _, _, _, _, _, _, _, _, _, _, _, _, _, _, _, _, _, _, _, _, _, _, _, _, _]) _
      refine q_is rfl rfl (does_load (u := (.slice p52 el1.length q53)) (ev rfl) Try.isAgg44 (Cells.at hc49 0 rfl)) (by dsimp only [List.set]; try rfl) ?_
      refine q_is rfl rfl (does_assign (u := (.slice p52 el1.length q53)) (ev rfl)) (by dsimp only [List.set]; try rfl) ?_
      refine wpList_nil (hK45 _ _ ?_)
      refine wp_seq_k fun K55 hK55 => ?_
      obtain ⟨β3, hβ3⟩ : ∃ b : Bool, b = (icmp .neq (el1.length : Int) 3) := ⟨_, rfl⟩
      obtain ⟨el2, hel2⟩ := exists_el (0 : Int) el1 0
      obtain ⟨β4, hβ4⟩ : ∃ b : Bool, b = (inI el2 0 (IntKind.i64.wrap ((A_m.places.length : Int) - 1))) := ⟨_, rfl⟩
      obtain ⟨el3, hel3⟩ := exists_el (0 : Int) el1 1
      obtain ⟨β5, hβ5⟩ : ∃ b : Bool, b = (inI el3 0 (IntKind.i64.wrap ((A_m.places.length : Int) - 1))) := ⟨_, rfl⟩
      obtain ⟨el4, hel4⟩ := exists_el (0 : Int) el1 2
      obtain ⟨β6, hβ6⟩ : ∃ b : Bool, b = (inI el4 0 (IntKind.i64.wrap ((A_m.places.length : Int) - 1))) := ⟨_, rfl⟩
      obtain ⟨β7, hβ7⟩ : ∃ b : Bool, b = (((β3 || (!β4)) || (!β5)) || (!β6)) := ⟨_, rfl⟩
      obtain ⟨β8, hβ8⟩ : ∃ b : Bool, b = (β7 || (icmp .eql el2 el3)) := ⟨_, rfl⟩
      obtain ⟨β9, hβ9⟩ : ∃ b : Bool, b = (β8 || (icmp .eql el3 el4)) := ⟨_, rfl⟩
      obtain ⟨β10, hβ10⟩ : ∃ b : Bool, b = (β9 || (icmp .eql el4 el2)) := ⟨_, rfl⟩
      refine region_draw (
        [Fact.pure [] (fun v => v = (.slice p52 el1.length q53)),
    Fact.pure [36] (fun v => v = (Iv (el1.length : Int))),
    Fact.pure [37] (fun v => v = (Bo β3)),
    Fact.pure [38] (fun v => v = (Bo β3)),
    Fact.pure [39] (fun v => β3 = false → v = (.slice p52 el1.length q53)),
    Fact.mem [40, 39] (fun v w' => β3 = false → PtrR RI w' v el2) (by intro v w1 w2 hx h; exact fun hg1 => (h hg1).ext RI.mono hx),
    Fact.pure [41, 39] (fun v => β3 = false → v = (Iv el2)),
    Fact.pure [39] (fun v => β3 = false → v = (Iv (A_m.places.length : Int))),
    Fact.pure [43, 39] (fun v => β3 = false → v = (Iv (IntKind.i64.wrap ((A_m.places.length : Int) - 1)))),
    Fact.pure [42, 44, 39] (fun v => β3 = false → v = (Bo β4)),
    Fact.pure [45, 39] (fun v => β3 = false → v = (Bo (!β4))),
    Fact.pure [39, 46] (fun v => v = (Bo (β3 || (!β4)))),
    Fact.pure [47] (fun v => v = (Bo (β3 || (!β4)))),
    Fact.pure [48] (fun v => (β3 || (!β4)) = false → v = (.slice p52 el1.length q53)),
    Fact.mem [49, 48] (fun v w' => (β3 || (!β4)) = false → PtrR RI w' v el3) (by intro v w1 w2 hx h; exact fun hg1 => (h hg1).ext RI.mono hx),
    Fact.pure [50, 48] (fun v => (β3 || (!β4)) = false → v = (Iv el3)),
    Fact.pure [48] (fun v => (β3 || (!β4)) = false → v = (Iv (A_m.places.length : Int))),
    Fact.pure [52, 48] (fun v => (β3 || (!β4)) = false → v = (Iv (IntKind.i64.wrap ((A_m.places.length : Int) - 1)))),
    Fact.pure [51, 53, 48] (fun v => (β3 || (!β4)) = false → v = (Bo β5)),
    Fact.pure [54, 48] (fun v => (β3 || (!β4)) = false → v = (Bo (!β5))),
    Fact.pure [48, 55] (fun v => v = (Bo ((β3 || (!β4)) || (!β5)))),
    Fact.pure [56] (fun v => v = (Bo ((β3 || (!β4)) || (!β5)))),
    Fact.pure [57] (fun v => ((β3 || (!β4)) || (!β5)) = false → v = (.slice p52 el1.length q53)),
    Fact.mem [58, 57] (fun v w' => ((β3 || (!β4)) || (!β5)) = false → PtrR RI w' v el4) (by intro v w1 w2 hx h; exact fun hg1 => (h hg1).ext RI.mono hx),
    Fact.pure [59, 57] (fun v => ((β3 || (!β4)) || (!β5)) = false → v = (Iv el4)),
    Fact.pure [57] (fun v => ((β3 || (!β4)) || (!β5)) = false → v = (Iv (A_m.places.length : Int))),
    Fact.pure [61, 57] (fun v => ((β3 || (!β4)) || (!β5)) = false → v = (Iv (IntKind.i64.wrap ((A_m.places.length : Int) - 1)))),
    Fact.pure [60, 62, 57] (fun v => ((β3 || (!β4)) || (!β5)) = false → v = (Bo β6)),
    Fact.pure [63, 57] (fun v => ((β3 || (!β4)) || (!β5)) = false → v = (Bo (!β6))),
    Fact.pure [57, 64] (fun v => v = (Bo β7)),
    Fact.pure [65] (fun v => v = (Bo β7)),
    Fact.pure [66] (fun v => β7 = false → v = (.slice p52 el1.length q53)),
    Fact.mem [67, 66] (fun v w' => β7 = false → PtrR RI w' v el2) (by intro v w1 w2 hx h; exact fun hg1 => (h hg1).ext RI.mono hx),
    Fact.pure [68, 66] (fun v => β7 = false → v = (Iv el2)),
    Fact.pure [66] (fun v => β7 = false → v = (.slice p52 el1.length q53)),
    Fact.mem [70, 66] (fun v w' => β7 = false → PtrR RI w' v el3) (by intro v w1 w2 hx h; exact fun hg1 => (h hg1).ext RI.mono hx),
    Fact.pure [71, 66] (fun v => β7 = false → v = (Iv el3)),
    Fact.pure [69, 72, 66] (fun v => β7 = false → v = (Bo (icmp .eql el2 el3))),
    Fact.pure [66, 73] (fun v => v = (Bo β8)),
    Fact.pure [74] (fun v => v = (Bo β8)),
    Fact.pure [75] (fun v => β8 = false → v = (.slice p52 el1.length q53)),
    Fact.mem [76, 75] (fun v w' => β8 = false → PtrR RI w' v el3) (by intro v w1 w2 hx h; exact fun hg1 => (h hg1).ext RI.mono hx),
    Fact.pure [77, 75] (fun v => β8 = false → v = (Iv el3)),
    Fact.pure [75] (fun v => β8 = false → v = (.slice p52 el1.length q53)),
    Fact.mem [79, 75] (fun v w' => β8 = false → PtrR RI w' v el4) (by intro v w1 w2 hx h; exact fun hg1 => (h hg1).ext RI.mono hx),
    Fact.pure [80, 75] (fun v => β8 = false → v = (Iv el4)),
    Fact.pure [78, 81, 75] (fun v => β8 = false → v = (Bo (icmp .eql el3 el4))),
    Fact.pure [75, 82] (fun v => v = (Bo β9)),
    Fact.pure [83] (fun v => v = (Bo β9)),
    Fact.pure [84] (fun v => β9 = false → v = (.slice p52 el1.length q53)),
    Fact.mem [85, 84] (fun v w' => β9 = false → PtrR RI w' v el4) (by intro v w1 w2 hx h; exact fun hg1 => (h hg1).ext RI.mono hx),
    Fact.pure [86, 84] (fun v => β9 = false → v = (Iv el4)),
    Fact.pure [84] (fun v => β9 = false → v = (.slice p52 el1.length q53)),
    Fact.mem [88, 84] (fun v w' => β9 = false → PtrR RI w' v el2) (by intro v w1 w2 hx h; exact fun hg1 => (h hg1).ext RI.mono hx),
    Fact.pure [89, 84] (fun v => β9 = false → v = (Iv el2)),
    Fact.pure [87, 90, 84] (fun v => β9 = false → v = (Bo (icmp .eql el4 el2))),
    Fact.pure [84, 91] (fun v => v = (Bo β10))]) mixed (by kernel_rfl) (by intro _ _ d _ _ h; cases d <;> exact h) ?_
      obtain ⟨w56, hw58⟩ : ∃ w', w' = World.drew w36 := ⟨_, rfl⟩; rw [← hw58]; have E57 : Ext w36 w56 := by rw [hw58]; exact Ext.draw _
      clear hw58
      have X59 := Ext.gr X39 E57
      refine RW_d _ rfl (fun v => by dsimp only [List.set]; try rfl) (fun u hu hF => ?_) (fun v60 => ?_)
      · clear hF
        refine doesG_un rfl ?_
        refine (does_move (u := (.slice p52 el1.length q53)) (ev rfl)).mono ?_; rintro _ _ ⟨rfl, rfl⟩
        exact ⟨rfl, Ext.refl _⟩
      refine RW_d _ rfl (fun v => by dsimp only [List.set]; try rfl) (fun u hu hF => ?_) (fun v61 => ?_)
      · have h36_ : v60 = (.slice p52 el1.length q53) := hF.1
        clear hF
        refine doesG_un rfl ?_
        obtain rfl := h36_
        refine (does_len_slice Try.underlying44 (ev rfl)).mono ?_; rintro _ _ ⟨rfl, rfl⟩
        exact ⟨rfl, Ext.refl _⟩
      refine RW_d _ rfl (fun v => by dsimp only [List.set]; try rfl) (fun u hu hF => ?_) (fun v62 => ?_)
      · have h37_ : v61 = (Iv (el1.length : Int)) := hF.1
        clear hF
        refine doesG_un rfl ?_
        obtain rfl := h37_
        refine (does_icmp (p := (el1.length : Int)) (q := 3) (.inr (.inl rfl)) (ev rfl) (ev rfl)).mono ?_; rintro _ _ ⟨rfl, rfl⟩
        exact ⟨(by first | rfl | (show _ = _; simp only [hβ3]; done) | (show _ = _; simp only [hβ3]; rfl)), Ext.refl _⟩
      refine RW_d _ rfl (fun v => by dsimp only [List.set]; try rfl) (fun u hu hF => ?_) (fun v63 => ?_)
      · have h38_ : v62 = (Bo β3) := hF.1
        clear hF
        refine doesG_un rfl ?_
        obtain rfl := h38_
        refine (does_move (u := (Bo β3)) (ev rfl)).mono ?_; rintro _ _ ⟨rfl, rfl⟩
        exact ⟨rfl, Ext.refl _⟩
      refine RW_d _ rfl (fun v => by dsimp only [List.set]; try rfl) (fun u hu hF => ?_) (fun v64 => ?_)
      · have h39_ : v63 = (Bo β3) := hF.1
        clear hF
        obtain rfl := h39_
        refine doesG_g (b := β3) rfl (yld rfl rfl) (fun hg1 => ?_) (fun hc => ⟨fun hg1 => absurd hg1 hc, Ext.refl _⟩)
        refine (does_move (u := (.slice p52 el1.length q53)) (ev rfl)).mono ?_; rintro _ _ ⟨rfl, rfl⟩
        exact ⟨fun _ => rfl, Ext.refl _⟩
      refine RW_d _ rfl (fun v => by dsimp only [List.set]; try rfl) (fun u hu hF => ?_) (fun v65 => ?_)
      · have h40_ : β3 = false → v64 = (.slice p52 el1.length q53) := hF.1
        have h39_ : v63 = (Bo β3) := hF.2.1
        clear hF
        obtain rfl := h39_
        refine doesG_g (b := β3) rfl (yld rfl rfl) (fun hg1 => ?_) (fun hc => ⟨fun hg1 => absurd hg1 hc, Ext.refl _⟩)
        obtain rfl := h40_ hg1
        refine (does_indexSl (R := RI) (i := 0) (xs := el1) (e := el2) Try.underlying44 Try.sizeOf2 (ev rfl) (ev rfl) (Sl.ext (Sl.ext hs54 RI.mono E57) RI.mono hu) (by first | omega | (simp only [hβ3, icmp, Bool.or_eq_false_iff, Bool.not_eq_false', Bool.not_eq_true', decide_eq_true_eq, decide_eq_false_iff_not, bne_eq_false_iff_eq] at hg1; omega) | (simp only [hβ3, icmp, Bool.or_eq_false_iff, Bool.not_eq_false', Bool.not_eq_true', decide_eq_true_eq, decide_eq_false_iff_not, bne_eq_false_iff_eq] at hg1 hg2; omega)) (hel2 (by first | omega | (simp only [hβ3, icmp, Bool.or_eq_false_iff, Bool.not_eq_false', Bool.not_eq_true', bne_eq_false_iff_eq] at hg1; omega)))).mono ?_; rintro v u' ⟨b, of, cs, hv, hc, hR, hu'⟩; subst hu'
        exact ⟨fun _ => ⟨b, of, cs, hv, hc, hR⟩, Ext.refl _⟩
      refine RW_d _ rfl (fun v => by dsimp only [List.set]; try rfl) (fun u hu hF => ?_) (fun v66 => ?_)
      · have h41_ : β3 = false → PtrR RI u v65 el2 := hF.1
        have h39_ : v63 = (Bo β3) := hF.2.1
        clear hF
        obtain rfl := h39_
        refine doesG_g (b := β3) rfl (yld rfl rfl) (fun hg1 => ?_) (fun hc => ⟨fun hg1 => absurd hg1 hc, Ext.refl _⟩)
        obtain ⟨b41_, o41_, _, rfl, hc41_, rfl⟩ := h41_ hg1
        refine (does_load (u := (Iv el2)) (ev rfl) Try.isAgg2 (Cells.at hc41_ 0 rfl)).mono ?_; rintro _ _ ⟨rfl, rfl⟩
        exact ⟨fun _ => rfl, Ext.refl _⟩
      refine RW_d _ rfl (fun v => by dsimp only [List.set]; try rfl) (fun u hu hF => ?_) (fun v67 => ?_)
      · have h39_ : v63 = (Bo β3) := hF.1
        clear hF
        obtain rfl := h39_
        refine doesG_g (b := β3) rfl (yld rfl rfl) (fun hg1 => ?_) (fun hc => ⟨fun hg1 => absurd hg1 hc, Ext.refl _⟩)
        refine (does_move (u := (Iv (A_m.places.length : Int))) (ev rfl)).mono ?_; rintro _ _ ⟨rfl, rfl⟩
        exact ⟨fun _ => rfl, Ext.refl _⟩
      refine RW_d _ rfl (fun v => by dsimp only [List.set]; try rfl) (fun u hu hF => ?_) (fun v68 => ?_)
      · have h43_ : β3 = false → v67 = (Iv (A_m.places.length : Int)) := hF.1
        have h39_ : v63 = (Bo β3) := hF.2.1
        clear hF
        obtain rfl := h39_
        refine doesG_g (b := β3) rfl (yld rfl rfl) (fun hg1 => ?_) (fun hc => ⟨fun hg1 => absurd hg1 hc, Ext.refl _⟩)
        obtain rfl := h43_ hg1
        refine (does_iarith (p := (A_m.places.length : Int)) (q := 1) (r := IntKind.i64.wrap ((A_m.places.length : Int) - 1)) (ev rfl) (ev rfl) (.inr (.inl ⟨rfl, rfl⟩))).mono ?_; rintro _ _ ⟨rfl, rfl⟩
        exact ⟨fun _ => rfl, Ext.refl _⟩
      refine RW_d _ rfl (fun v => by dsimp only [List.set]; try rfl) (fun u hu hF => ?_) (fun v69 => ?_)
      · have h42_ : β3 = false → v66 = (Iv el2) := hF.1
        have h44_ : β3 = false → v68 = (Iv (IntKind.i64.wrap ((A_m.places.length : Int) - 1))) := hF.2.1
        have h39_ : v63 = (Bo β3) := hF.2.2.1
        clear hF
        obtain rfl := h39_
        refine doesG_g (b := β3) rfl (yld rfl rfl) (fun hg1 => ?_) (fun hc => ⟨fun hg1 => absurd hg1 hc, Ext.refl _⟩)
        obtain rfl := h42_ hg1
        obtain rfl := h44_ hg1
        refine (does_call (args := #[(Iv el2), (Iv 0), (Iv (IntKind.i64.wrap ((A_m.places.length : Int) - 1)))]) cal38 (evs rfl) (c_spec_l00In el2 0 (IntKind.i64.wrap ((A_m.places.length : Int) - 1)) _)).mono ?_; rintro v u' ⟨hx, hv⟩
        exact ⟨fun _ => hv.trans (by simp only [hβ4]), hx⟩
      refine RW_d _ rfl (fun v => by dsimp only [List.set]; try rfl) (fun u hu hF => ?_) (fun v70 => ?_)
      · have h45_ : β3 = false → v69 = (Bo β4) := hF.1
        have h39_ : v63 = (Bo β3) := hF.2.1
        clear hF
        obtain rfl := h39_
        refine doesG_g (b := β3) rfl (yld rfl rfl) (fun hg1 => ?_) (fun hc => ⟨fun hg1 => absurd hg1 hc, Ext.refl _⟩)
        obtain rfl := h45_ hg1
        refine (does_not (ev rfl)).mono ?_; rintro _ _ ⟨rfl, rfl⟩
        exact ⟨fun _ => rfl, Ext.refl _⟩
      refine RW_d _ rfl (fun v => by dsimp only [List.set]; try rfl) (fun u hu hF => ?_) (fun v71 => ?_)
      · have h39_ : v63 = (Bo β3) := hF.1
        have h46_ : β3 = false → v70 = (Bo (!β4)) := hF.2.1
        clear hF
        refine doesG_un rfl ?_
        skip
        obtain rfl := h39_
        refine (does_pick (b := β3) (u := (Bo true)) (v := v70) (ev rfl) (ev rfl) (ev rfl)).mono ?_; rintro _ _ ⟨rfl, rfl⟩; refine ⟨?_, Ext.refl _⟩; skip
        cases hbb : β3
        all_goals first | (show _ = _; simp only [↓reduceIte, Bool.true_and, Bool.false_and, Bool.true_or, Bool.false_or, Bool.false_eq_true]; done) | (have e_ := h46_ hbb; subst e_; show _ = _; simp only [↓reduceIte, Bool.true_and, Bool.false_and, Bool.true_or, Bool.false_or, Bool.false_eq_true]; done) | rfl | (have e_ := h46_ hbb; subst e_; rfl) | (simp [hbb] at h46_ ⊢; first | done | rfl | (subst h46_; rfl) | simp_all) | (simp [hbb] at h46_ ⊢; done)
      refine RW_d _ rfl (fun v => by dsimp only [List.set]; try rfl) (fun u hu hF => ?_) (fun v72 => ?_)
      · have h47_ : v71 = (Bo (β3 || (!β4))) := hF.1
        clear hF
        refine doesG_un rfl ?_
        obtain rfl := h47_
        refine (does_move (u := (Bo (β3 || (!β4)))) (ev rfl)).mono ?_; rintro _ _ ⟨rfl, rfl⟩
        exact ⟨rfl, Ext.refl _⟩
      refine RW_d _ rfl (fun v => by dsimp only [List.set]; try rfl) (fun u hu hF => ?_) (fun v73 => ?_)
      · have h48_ : v72 = (Bo (β3 || (!β4))) := hF.1
        clear hF
        obtain rfl := h48_
        refine doesG_g (b := (β3 || (!β4))) rfl (yld rfl rfl) (fun hg1 => ?_) (fun hc => ⟨fun hg1 => absurd hg1 hc, Ext.refl _⟩)
        refine (does_move (u := (.slice p52 el1.length q53)) (ev rfl)).mono ?_; rintro _ _ ⟨rfl, rfl⟩
        exact ⟨fun _ => rfl, Ext.refl _⟩
      refine RW_d _ rfl (fun v => by dsimp only [List.set]; try rfl) (fun u hu hF => ?_) (fun v74 => ?_)
      · have h49_ : (β3 || (!β4)) = false → v73 = (.slice p52 el1.length q53) := hF.1
        have h48_ : v72 = (Bo (β3 || (!β4))) := hF.2.1
        clear hF
        obtain rfl := h48_
        refine doesG_g (b := (β3 || (!β4))) rfl (yld rfl rfl) (fun hg1 => ?_) (fun hc => ⟨fun hg1 => absurd hg1 hc, Ext.refl _⟩)
        obtain rfl := h49_ hg1
        refine (does_indexSl (R := RI) (i := 1) (xs := el1) (e := el3) Try.underlying44 Try.sizeOf2 (ev rfl) (ev rfl) (Sl.ext (Sl.ext hs54 RI.mono E57) RI.mono hu) (by first | omega | (simp only [hβ3, hβ4, icmp, Bool.or_eq_false_iff, Bool.not_eq_false', Bool.not_eq_true', decide_eq_true_eq, decide_eq_false_iff_not, bne_eq_false_iff_eq] at hg1; omega) | (simp only [hβ3, hβ4, icmp, Bool.or_eq_false_iff, Bool.not_eq_false', Bool.not_eq_true', decide_eq_true_eq, decide_eq_false_iff_not, bne_eq_false_iff_eq] at hg1 hg2; omega)) (hel3 (by first | omega | (simp only [hβ3, hβ4, icmp, Bool.or_eq_false_iff, Bool.not_eq_false', Bool.not_eq_true', bne_eq_false_iff_eq] at hg1; omega)))).mono ?_; rintro v u' ⟨b, of, cs, hv, hc, hR, hu'⟩; subst hu'
        exact ⟨fun _ => ⟨b, of, cs, hv, hc, hR⟩, Ext.refl _⟩
      refine RW_d _ rfl (fun v => by dsimp only [List.set]; try rfl) (fun u hu hF => ?_) (fun v75 => ?_)
      · have h50_ : (β3 || (!β4)) = false → PtrR RI u v74 el3 := hF.1
        have h48_ : v72 = (Bo (β3 || (!β4))) := hF.2.1
        clear hF
        obtain rfl := h48_
        refine doesG_g (b := (β3 || (!β4))) rfl (yld rfl rfl) (fun hg1 => ?_) (fun hc => ⟨fun hg1 => absurd hg1 hc, Ext.refl _⟩)
        obtain ⟨b50_, o50_, _, rfl, hc50_, rfl⟩ := h50_ hg1
        refine (does_load (u := (Iv el3)) (ev rfl) Try.isAgg2 (Cells.at hc50_ 0 rfl)).mono ?_; rintro _ _ ⟨rfl, rfl⟩
        exact ⟨fun _ => rfl, Ext.refl _⟩
      refine RW_d _ rfl (fun v => by dsimp only [List.set]; try rfl) (fun u hu hF => ?_) (fun v76 => ?_)
      · have h48_ : v72 = (Bo (β3 || (!β4))) := hF.1
        clear hF
        obtain rfl := h48_
        refine doesG_g (b := (β3 || (!β4))) rfl (yld rfl rfl) (fun hg1 => ?_) (fun hc => ⟨fun hg1 => absurd hg1 hc, Ext.refl _⟩)
        refine (does_move (u := (Iv (A_m.places.length : Int))) (ev rfl)).mono ?_; rintro _ _ ⟨rfl, rfl⟩
        exact ⟨fun _ => rfl, Ext.refl _⟩
      refine RW_d _ rfl (fun v => by dsimp only [List.set]; try rfl) (fun u hu hF => ?_) (fun v77 => ?_)
      · have h52_ : (β3 || (!β4)) = false → v76 = (Iv (A_m.places.length : Int)) := hF.1
        have h48_ : v72 = (Bo (β3 || (!β4))) := hF.2.1
        clear hF
        obtain rfl := h48_
        refine doesG_g (b := (β3 || (!β4))) rfl (yld rfl rfl) (fun hg1 => ?_) (fun hc => ⟨fun hg1 => absurd hg1 hc, Ext.refl _⟩)
        obtain rfl := h52_ hg1
        refine (does_iarith (p := (A_m.places.length : Int)) (q := 1) (r := IntKind.i64.wrap ((A_m.places.length : Int) - 1)) (ev rfl) (ev rfl) (.inr (.inl ⟨rfl, rfl⟩))).mono ?_; rintro _ _ ⟨rfl, rfl⟩
        exact ⟨fun _ => rfl, Ext.refl _⟩
      refine RW_d _ rfl (fun v => by dsimp only [List.set]; try rfl) (fun u hu hF => ?_) (fun v78 => ?_)
      · have h51_ : (β3 || (!β4)) = false → v75 = (Iv el3) := hF.1
        have h53_ : (β3 || (!β4)) = false → v77 = (Iv (IntKind.i64.wrap ((A_m.places.length : Int) - 1))) := hF.2.1
        have h48_ : v72 = (Bo (β3 || (!β4))) := hF.2.2.1
        clear hF
        obtain rfl := h48_
        refine doesG_g (b := (β3 || (!β4))) rfl (yld rfl rfl) (fun hg1 => ?_) (fun hc => ⟨fun hg1 => absurd hg1 hc, Ext.refl _⟩)
        obtain rfl := h51_ hg1
        obtain rfl := h53_ hg1
        refine (does_call (args := #[(Iv el3), (Iv 0), (Iv (IntKind.i64.wrap ((A_m.places.length : Int) - 1)))]) cal38 (evs rfl) (c_spec_l00In el3 0 (IntKind.i64.wrap ((A_m.places.length : Int) - 1)) _)).mono ?_; rintro v u' ⟨hx, hv⟩
        exact ⟨fun _ => hv.trans (by simp only [hβ5]), hx⟩
      refine RW_d _ rfl (fun v => by dsimp only [List.set]; try rfl) (fun u hu hF => ?_) (fun v79 => ?_)
      · have h54_ : (β3 || (!β4)) = false → v78 = (Bo β5) := hF.1
        have h48_ : v72 = (Bo (β3 || (!β4))) := hF.2.1
        clear hF
        obtain rfl := h48_
        refine doesG_g (b := (β3 || (!β4))) rfl (yld rfl rfl) (fun hg1 => ?_) (fun hc => ⟨fun hg1 => absurd hg1 hc, Ext.refl _⟩)
        obtain rfl := h54_ hg1
        refine (does_not (ev rfl)).mono ?_; rintro _ _ ⟨rfl, rfl⟩
        exact ⟨fun _ => rfl, Ext.refl _⟩
      refine RW_d _ rfl (fun v => by dsimp only [List.set]; try rfl) (fun u hu hF => ?_) (fun v80 => ?_)
      · have h48_ : v72 = (Bo (β3 || (!β4))) := hF.1
        have h55_ : (β3 || (!β4)) = false → v79 = (Bo (!β5)) := hF.2.1
        clear hF
        refine doesG_un rfl ?_
        skip
        obtain rfl := h48_
        refine (does_pick (b := (β3 || (!β4))) (u := (Bo true)) (v := v79) (ev rfl) (ev rfl) (ev rfl)).mono ?_; rintro _ _ ⟨rfl, rfl⟩; refine ⟨?_, Ext.refl _⟩; skip
        cases hbb : (β3 || (!β4))
        all_goals first | (show _ = _; simp only [↓reduceIte, Bool.true_and, Bool.false_and, Bool.true_or, Bool.false_or, Bool.false_eq_true]; done) | (have e_ := h55_ hbb; subst e_; show _ = _; simp only [↓reduceIte, Bool.true_and, Bool.false_and, Bool.true_or, Bool.false_or, Bool.false_eq_true]; done) | rfl | (have e_ := h55_ hbb; subst e_; rfl) | (simp [hbb] at h55_ ⊢; first | done | rfl | (subst h55_; rfl) | simp_all) | (simp [hbb] at h55_ ⊢; done)
      refine RW_d _ rfl (fun v => by dsimp only [List.set]; try rfl) (fun u hu hF => ?_) (fun v81 => ?_)
      · have h56_ : v80 = (Bo ((β3 || (!β4)) || (!β5))) := hF.1
        clear hF
        refine doesG_un rfl ?_
        obtain rfl := h56_
        refine (does_move (u := (Bo ((β3 || (!β4)) || (!β5)))) (ev rfl)).mono ?_; rintro _ _ ⟨rfl, rfl⟩
        exact ⟨rfl, Ext.refl _⟩
      refine RW_d _ rfl (fun v => by dsimp only [List.set]; try rfl) (fun u hu hF => ?_) (fun v82 => ?_)
      · have h57_ : v81 = (Bo ((β3 || (!β4)) || (!β5))) := hF.1
        clear hF
        obtain rfl := h57_
        refine doesG_g (b := ((β3 || (!β4)) || (!β5))) rfl (yld rfl rfl) (fun hg1 => ?_) (fun hc => ⟨fun hg1 => absurd hg1 hc, Ext.refl _⟩)
        refine (does_move (u := (.slice p52 el1.length q53)) (ev rfl)).mono ?_; rintro _ _ ⟨rfl, rfl⟩
        exact ⟨fun _ => rfl, Ext.refl _⟩
      refine RW_d _ rfl (fun v => by dsimp only [List.set]; try rfl) (fun u hu hF => ?_) (fun v83 => ?_)
      · have h58_ : ((β3 || (!β4)) || (!β5)) = false → v82 = (.slice p52 el1.length q53) := hF.1
        have h57_ : v81 = (Bo ((β3 || (!β4)) || (!β5))) := hF.2.1
        clear hF
        obtain rfl := h57_
        refine doesG_g (b := ((β3 || (!β4)) || (!β5))) rfl (yld rfl rfl) (fun hg1 => ?_) (fun hc => ⟨fun hg1 => absurd hg1 hc, Ext.refl _⟩)
        obtain rfl := h58_ hg1
        refine (does_indexSl (R := RI) (i := 2) (xs := el1) (e := el4) Try.underlying44 Try.sizeOf2 (ev rfl) (ev rfl) (Sl.ext (Sl.ext hs54 RI.mono E57) RI.mono hu) (by first | omega | (simp only [hβ3, hβ4, hβ5, icmp, Bool.or_eq_false_iff, Bool.not_eq_false', Bool.not_eq_true', decide_eq_true_eq, decide_eq_false_iff_not, bne_eq_false_iff_eq] at hg1; omega) | (simp only [hβ3, hβ4, hβ5, icmp, Bool.or_eq_false_iff, Bool.not_eq_false', Bool.not_eq_true', decide_eq_true_eq, decide_eq_false_iff_not, bne_eq_false_iff_eq] at hg1 hg2; omega)) (hel4 (by first | omega | (simp only [hβ3, hβ4, hβ5, icmp, Bool.or_eq_false_iff, Bool.not_eq_false', Bool.not_eq_true', bne_eq_false_iff_eq] at hg1; omega)))).mono ?_; rintro v u' ⟨b, of, cs, hv, hc, hR, hu'⟩; subst hu'
        exact ⟨fun _ => ⟨b, of, cs, hv, hc, hR⟩, Ext.refl _⟩
      refine RW_d _ rfl (fun v => by dsimp only [List.set]; try rfl) (fun u hu hF => ?_) (fun v84 => ?_)
      · have h59_ : ((β3 || (!β4)) || (!β5)) = false → PtrR RI u v83 el4 := hF.1
        have h57_ : v81 = (Bo ((β3 || (!β4)) || (!β5))) := hF.2.1
        clear hF
        obtain rfl := h57_
        refine doesG_g (b := ((β3 || (!β4)) || (!β5))) rfl (yld rfl rfl) (fun hg1 => ?_) (fun hc => ⟨fun hg1 => absurd hg1 hc, Ext.refl _⟩)
        obtain ⟨b59_, o59_, _, rfl, hc59_, rfl⟩ := h59_ hg1
        refine (does_load (u := (Iv el4)) (ev rfl) Try.isAgg2 (Cells.at hc59_ 0 rfl)).mono ?_; rintro _ _ ⟨rfl, rfl⟩
        exact ⟨fun _ => rfl, Ext.refl _⟩
      refine RW_d _ rfl (fun v => by dsimp only [List.set]; try rfl) (fun u hu hF => ?_) (fun v85 => ?_)
      · have h57_ : v81 = (Bo ((β3 || (!β4)) || (!β5))) := hF.1
        clear hF
        obtain rfl := h57_
        refine doesG_g (b := ((β3 || (!β4)) || (!β5))) rfl (yld rfl rfl) (fun hg1 => ?_) (fun hc => ⟨fun hg1 => absurd hg1 hc, Ext.refl _⟩)
        refine (does_move (u := (Iv (A_m.places.length : Int))) (ev rfl)).mono ?_; rintro _ _ ⟨rfl, rfl⟩
        exact ⟨fun _ => rfl, Ext.refl _⟩
      refine RW_d _ rfl (fun v => by dsimp only [List.set]; try rfl) (fun u hu hF => ?_) (fun v86 => ?_)
      · have h61_ : ((β3 || (!β4)) || (!β5)) = false → v85 = (Iv (A_m.places.length : Int)) := hF.1
        have h57_ : v81 = (Bo ((β3 || (!β4)) || (!β5))) := hF.2.1
        clear hF
        obtain rfl := h57_
        refine doesG_g (b := ((β3 || (!β4)) || (!β5))) rfl (yld rfl rfl) (fun hg1 => ?_) (fun hc => ⟨fun hg1 => absurd hg1 hc, Ext.refl _⟩)
        obtain rfl := h61_ hg1
        refine (does_iarith (p := (A_m.places.length : Int)) (q := 1) (r := IntKind.i64.wrap ((A_m.places.length : Int) - 1)) (ev rfl) (ev rfl) (.inr (.inl ⟨rfl, rfl⟩))).mono ?_; rintro _ _ ⟨rfl, rfl⟩
        exact ⟨fun _ => rfl, Ext.refl _⟩
      refine RW_d _ rfl (fun v => by dsimp only [List.set]; try rfl) (fun u hu hF => ?_) (fun v87 => ?_)
      · have h60_ : ((β3 || (!β4)) || (!β5)) = false → v84 = (Iv el4) := hF.1
        have h62_ : ((β3 || (!β4)) || (!β5)) = false → v86 = (Iv (IntKind.i64.wrap ((A_m.places.length : Int) - 1))) := hF.2.1
        have h57_ : v81 = (Bo ((β3 || (!β4)) || (!β5))) := hF.2.2.1
        clear hF
        obtain rfl := h57_
        refine doesG_g (b := ((β3 || (!β4)) || (!β5))) rfl (yld rfl rfl) (fun hg1 => ?_) (fun hc => ⟨fun hg1 => absurd hg1 hc, Ext.refl _⟩)
        obtain rfl := h60_ hg1
        obtain rfl := h62_ hg1
        refine (does_call (args := #[(Iv el4), (Iv 0), (Iv (IntKind.i64.wrap ((A_m.places.length : Int) - 1)))]) cal38 (evs rfl) (c_spec_l00In el4 0 (IntKind.i64.wrap ((A_m.places.length : Int) - 1)) _)).mono ?_; rintro v u' ⟨hx, hv⟩
        exact ⟨fun _ => hv.trans (by simp only [hβ6]), hx⟩
      refine RW_d _ rfl (fun v => by dsimp only [List.set]; try rfl) (fun u hu hF => ?_) (fun v88 => ?_)
      · have h63_ : ((β3 || (!β4)) || (!β5)) = false → v87 = (Bo β6) := hF.1
        have h57_ : v81 = (Bo ((β3 || (!β4)) || (!β5))) := hF.2.1
        clear hF
        obtain rfl := h57_
        refine doesG_g (b := ((β3 || (!β4)) || (!β5))) rfl (yld rfl rfl) (fun hg1 => ?_) (fun hc => ⟨fun hg1 => absurd hg1 hc, Ext.refl _⟩)
        obtain rfl := h63_ hg1
        refine (does_not (ev rfl)).mono ?_; rintro _ _ ⟨rfl, rfl⟩
        exact ⟨fun _ => rfl, Ext.refl _⟩
      refine RW_d _ rfl (fun v => by dsimp only [List.set]; try rfl) (fun u hu hF => ?_) (fun v89 => ?_)
      · have h57_ : v81 = (Bo ((β3 || (!β4)) || (!β5))) := hF.1
        have h64_ : ((β3 || (!β4)) || (!β5)) = false → v88 = (Bo (!β6)) := hF.2.1
        clear hF
        refine doesG_un rfl ?_
        skip
        obtain rfl := h57_
        refine (does_pick (b := ((β3 || (!β4)) || (!β5))) (u := (Bo true)) (v := v88) (ev rfl) (ev rfl) (ev rfl)).mono ?_; rintro _ _ ⟨rfl, rfl⟩; refine ⟨?_, Ext.refl _⟩; rw [hβ7]; skip
        cases hbb : ((β3 || (!β4)) || (!β5))
        all_goals first | (show _ = _; simp only [↓reduceIte, Bool.true_and, Bool.false_and, Bool.true_or, Bool.false_or, Bool.false_eq_true]; done) | (have e_ := h64_ hbb; subst e_; show _ = _; simp only [↓reduceIte, Bool.true_and, Bool.false_and, Bool.true_or, Bool.false_or, Bool.false_eq_true]; done) | rfl | (have e_ := h64_ hbb; subst e_; rfl) | (simp [hbb] at h64_ ⊢; first | done | rfl | (subst h64_; rfl) | simp_all) | (simp [hbb] at h64_ ⊢; done)
      refine RW_d _ rfl (fun v => by dsimp only [List.set]; try rfl) (fun u hu hF => ?_) (fun v90 => ?_)
      · have h65_ : v89 = (Bo β7) := hF.1
        clear hF
        refine doesG_un rfl ?_
        obtain rfl := h65_
        refine (does_move (u := (Bo β7)) (ev rfl)).mono ?_; rintro _ _ ⟨rfl, rfl⟩
        exact ⟨rfl, Ext.refl _⟩
      refine RW_d _ rfl (fun v => by dsimp only [List.set]; try rfl) (fun u hu hF => ?_) (fun v91 => ?_)
      · have h66_ : v90 = (Bo β7) := hF.1
        clear hF
        obtain rfl := h66_
        refine doesG_g (b := β7) rfl (yld rfl rfl) (fun hg1 => ?_) (fun hc => ⟨fun hg1 => absurd hg1 hc, Ext.refl _⟩)
        refine (does_move (u := (.slice p52 el1.length q53)) (ev rfl)).mono ?_; rintro _ _ ⟨rfl, rfl⟩
        exact ⟨fun _ => rfl, Ext.refl _⟩
      refine RW_d _ rfl (fun v => by dsimp only [List.set]; try rfl) (fun u hu hF => ?_) (fun v92 => ?_)
      · have h67_ : β7 = false → v91 = (.slice p52 el1.length q53) := hF.1
        have h66_ : v90 = (Bo β7) := hF.2.1
        clear hF
        obtain rfl := h66_
        refine doesG_g (b := β7) rfl (yld rfl rfl) (fun hg1 => ?_) (fun hc => ⟨fun hg1 => absurd hg1 hc, Ext.refl _⟩)
        obtain rfl := h67_ hg1
        refine (does_indexSl (R := RI) (i := 0) (xs := el1) (e := el2) Try.underlying44 Try.sizeOf2 (ev rfl) (ev rfl) (Sl.ext (Sl.ext hs54 RI.mono E57) RI.mono hu) (by first | omega | (simp only [hβ3, hβ4, hβ5, hβ6, hβ7, icmp, Bool.or_eq_false_iff, Bool.not_eq_false', Bool.not_eq_true', decide_eq_true_eq, decide_eq_false_iff_not, bne_eq_false_iff_eq] at hg1; omega) | (simp only [hβ3, hβ4, hβ5, hβ6, hβ7, icmp, Bool.or_eq_false_iff, Bool.not_eq_false', Bool.not_eq_true', decide_eq_true_eq, decide_eq_false_iff_not, bne_eq_false_iff_eq] at hg1 hg2; omega)) (hel2 (by first | omega | (simp only [hβ3, hβ4, hβ5, hβ6, hβ7, icmp, Bool.or_eq_false_iff, Bool.not_eq_false', Bool.not_eq_true', bne_eq_false_iff_eq] at hg1; omega)))).mono ?_; rintro v u' ⟨b, of, cs, hv, hc, hR, hu'⟩; subst hu'
        exact ⟨fun _ => ⟨b, of, cs, hv, hc, hR⟩, Ext.refl _⟩
      refine RW_d _ rfl (fun v => by dsimp only [List.set]; try rfl) (fun u hu hF => ?_) (fun v93 => ?_)
      · have h68_ : β7 = false → PtrR RI u v92 el2 := hF.1
        have h66_ : v90 = (Bo β7) := hF.2.1
        clear hF
        obtain rfl := h66_
        refine doesG_g (b := β7) rfl (yld rfl rfl) (fun hg1 => ?_) (fun hc => ⟨fun hg1 => absurd hg1 hc, Ext.refl _⟩)
        obtain ⟨b68_, o68_, _, rfl, hc68_, rfl⟩ := h68_ hg1
        refine (does_load (u := (Iv el2)) (ev rfl) Try.isAgg2 (Cells.at hc68_ 0 rfl)).mono ?_; rintro _ _ ⟨rfl, rfl⟩
        exact ⟨fun _ => rfl, Ext.refl _⟩
      refine RW_d _ rfl (fun v => by dsimp only [List.set]; try rfl) (fun u hu hF => ?_) (fun v94 => ?_)
      · have h66_ : v90 = (Bo β7) := hF.1
        clear hF
        obtain rfl := h66_
        refine doesG_g (b := β7) rfl (yld rfl rfl) (fun hg1 => ?_) (fun hc => ⟨fun hg1 => absurd hg1 hc, Ext.refl _⟩)
        refine (does_move (u := (.slice p52 el1.length q53)) (ev rfl)).mono ?_; rintro _ _ ⟨rfl, rfl⟩
        exact ⟨fun _ => rfl, Ext.refl _⟩
      refine RW_d _ rfl (fun v => by dsimp only [List.set]; try rfl) (fun u hu hF => ?_) (fun v95 => ?_)
      · have h70_ : β7 = false → v94 = (.slice p52 el1.length q53) := hF.1
        have h66_ : v90 = (Bo β7) := hF.2.1
        clear hF
        obtain rfl := h66_
        refine doesG_g (b := β7) rfl (yld rfl rfl) (fun hg1 => ?_) (fun hc => ⟨fun hg1 => absurd hg1 hc, Ext.refl _⟩)
        obtain rfl := h70_ hg1
        refine (does_indexSl (R := RI) (i := 1) (xs := el1) (e := el3) Try.underlying44 Try.sizeOf2 (ev rfl) (ev rfl) (Sl.ext (Sl.ext hs54 RI.mono E57) RI.mono hu) (by first | omega | (simp only [hβ3, hβ4, hβ5, hβ6, hβ7, icmp, Bool.or_eq_false_iff, Bool.not_eq_false', Bool.not_eq_true', decide_eq_true_eq, decide_eq_false_iff_not, bne_eq_false_iff_eq] at hg1; omega) | (simp only [hβ3, hβ4, hβ5, hβ6, hβ7, icmp, Bool.or_eq_false_iff, Bool.not_eq_false', Bool.not_eq_true', decide_eq_true_eq, decide_eq_false_iff_not, bne_eq_false_iff_eq] at hg1 hg2; omega)) (hel3 (by first | omega | (simp only [hβ3, hβ4, hβ5, hβ6, hβ7, icmp, Bool.or_eq_false_iff, Bool.not_eq_false', Bool.not_eq_true', bne_eq_false_iff_eq] at hg1; omega)))).mono ?_; rintro v u' ⟨b, of, cs, hv, hc, hR, hu'⟩; subst hu'
        exact ⟨fun _ => ⟨b, of, cs, hv, hc, hR⟩, Ext.refl _⟩
      refine RW_d _ rfl (fun v => by dsimp only [List.set]; try rfl) (fun u hu hF => ?_) (fun v96 => ?_)
      · have h71_ : β7 = false → PtrR RI u v95 el3 := hF.1
        have h66_ : v90 = (Bo β7) := hF.2.1
        clear hF
        obtain rfl := h66_
        refine doesG_g (b := β7) rfl (yld rfl rfl) (fun hg1 => ?_) (fun hc => ⟨fun hg1 => absurd hg1 hc, Ext.refl _⟩)
        obtain ⟨b71_, o71_, _, rfl, hc71_, rfl⟩ := h71_ hg1
        refine (does_load (u := (Iv el3)) (ev rfl) Try.isAgg2 (Cells.at hc71_ 0 rfl)).mono ?_; rintro _ _ ⟨rfl, rfl⟩
        exact ⟨fun _ => rfl, Ext.refl _⟩
      refine RW_d _ rfl (fun v => by dsimp only [List.set]; try rfl) (fun u hu hF => ?_) (fun v97 => ?_)
      · have h69_ : β7 = false → v93 = (Iv el2) := hF.1
        have h72_ : β7 = false → v96 = (Iv el3) := hF.2.1
        have h66_ : v90 = (Bo β7) := hF.2.2.1
        clear hF
        obtain rfl := h66_
        refine doesG_g (b := β7) rfl (yld rfl rfl) (fun hg1 => ?_) (fun hc => ⟨fun hg1 => absurd hg1 hc, Ext.refl _⟩)
        obtain rfl := h69_ hg1
        obtain rfl := h72_ hg1
        refine (does_icmp (p := el2) (q := el3) (.inl rfl) (ev rfl) (ev rfl)).mono ?_; rintro _ _ ⟨rfl, rfl⟩
        exact ⟨fun _ => rfl, Ext.refl _⟩
      refine RW_d _ rfl (fun v => by dsimp only [List.set]; try rfl) (fun u hu hF => ?_) (fun v98 => ?_)
      · have h66_ : v90 = (Bo β7) := hF.1
        have h73_ : β7 = false → v97 = (Bo (icmp .eql el2 el3)) := hF.2.1
        clear hF
        refine doesG_un rfl ?_
        skip
        obtain rfl := h66_
        refine (does_pick (b := β7) (u := (Bo true)) (v := v97) (ev rfl) (ev rfl) (ev rfl)).mono ?_; rintro _ _ ⟨rfl, rfl⟩; refine ⟨?_, Ext.refl _⟩; rw [hβ8]; skip
        cases hbb : β7
        all_goals first | (show _ = _; simp only [↓reduceIte, Bool.true_and, Bool.false_and, Bool.true_or, Bool.false_or, Bool.false_eq_true]; done) | (have e_ := h73_ hbb; subst e_; show _ = _; simp only [↓reduceIte, Bool.true_and, Bool.false_and, Bool.true_or, Bool.false_or, Bool.false_eq_true]; done) | rfl | (have e_ := h73_ hbb; subst e_; rfl) | (simp [hbb] at h73_ ⊢; first | done | rfl | (subst h73_; rfl) | simp_all) | (simp [hbb] at h73_ ⊢; done)
      refine RW_d _ rfl (fun v => by dsimp only [List.set]; try rfl) (fun u hu hF => ?_) (fun v99 => ?_)
      · have h74_ : v98 = (Bo β8) := hF.1
        clear hF
        refine doesG_un rfl ?_
        obtain rfl := h74_
        refine (does_move (u := (Bo β8)) (ev rfl)).mono ?_; rintro _ _ ⟨rfl, rfl⟩
        exact ⟨rfl, Ext.refl _⟩
      refine RW_d _ rfl (fun v => by dsimp only [List.set]; try rfl) (fun u hu hF => ?_) (fun v100 => ?_)
      · have h75_ : v99 = (Bo β8) := hF.1
        clear hF
        obtain rfl := h75_
        refine doesG_g (b := β8) rfl (yld rfl rfl) (fun hg1 => ?_) (fun hc => ⟨fun hg1 => absurd hg1 hc, Ext.refl _⟩)
        refine (does_move (u := (.slice p52 el1.length q53)) (ev rfl)).mono ?_; rintro _ _ ⟨rfl, rfl⟩
        exact ⟨fun _ => rfl, Ext.refl _⟩
      refine RW_d _ rfl (fun v => by dsimp only [List.set]; try rfl) (fun u hu hF => ?_) (fun v101 => ?_)
      · have h76_ : β8 = false → v100 = (.slice p52 el1.length q53) := hF.1
        have h75_ : v99 = (Bo β8) := hF.2.1
        clear hF
        obtain rfl := h75_
        refine doesG_g (b := β8) rfl (yld rfl rfl) (fun hg1 => ?_) (fun hc => ⟨fun hg1 => absurd hg1 hc, Ext.refl _⟩)
        obtain rfl := h76_ hg1
        refine (does_indexSl (R := RI) (i := 1) (xs := el1) (e := el3) Try.underlying44 Try.sizeOf2 (ev rfl) (ev rfl) (Sl.ext (Sl.ext hs54 RI.mono E57) RI.mono hu) (by first | omega | (simp only [hβ3, hβ4, hβ5, hβ6, hβ7, hβ8, icmp, Bool.or_eq_false_iff, Bool.not_eq_false', Bool.not_eq_true', decide_eq_true_eq, decide_eq_false_iff_not, bne_eq_false_iff_eq] at hg1; omega) | (simp only [hβ3, hβ4, hβ5, hβ6, hβ7, hβ8, icmp, Bool.or_eq_false_iff, Bool.not_eq_false', Bool.not_eq_true', decide_eq_true_eq, decide_eq_false_iff_not, bne_eq_false_iff_eq] at hg1 hg2; omega)) (hel3 (by first | omega | (simp only [hβ3, hβ4, hβ5, hβ6, hβ7, hβ8, icmp, Bool.or_eq_false_iff, Bool.not_eq_false', Bool.not_eq_true', bne_eq_false_iff_eq] at hg1; omega)))).mono ?_; rintro v u' ⟨b, of, cs, hv, hc, hR, hu'⟩; subst hu'
        exact ⟨fun _ => ⟨b, of, cs, hv, hc, hR⟩, Ext.refl _⟩
      refine RW_d _ rfl (fun v => by dsimp only [List.set]; try rfl) (fun u hu hF => ?_) (fun v102 => ?_)
      · have h77_ : β8 = false → PtrR RI u v101 el3 := hF.1
        have h75_ : v99 = (Bo β8) := hF.2.1
        clear hF
        obtain rfl := h75_
        refine doesG_g (b := β8) rfl (yld rfl rfl) (fun hg1 => ?_) (fun hc => ⟨fun hg1 => absurd hg1 hc, Ext.refl _⟩)
        obtain ⟨b77_, o77_, _, rfl, hc77_, rfl⟩ := h77_ hg1
        refine (does_load (u := (Iv el3)) (ev rfl) Try.isAgg2 (Cells.at hc77_ 0 rfl)).mono ?_; rintro _ _ ⟨rfl, rfl⟩
        exact ⟨fun _ => rfl, Ext.refl _⟩
      refine RW_d _ rfl (fun v => by dsimp only [List.set]; try rfl) (fun u hu hF => ?_) (fun v103 => ?_)
      · have h75_ : v99 = (Bo β8) := hF.1
        clear hF
        obtain rfl := h75_
        refine doesG_g (b := β8) rfl (yld rfl rfl) (fun hg1 => ?_) (fun hc => ⟨fun hg1 => absurd hg1 hc, Ext.refl _⟩)
        refine (does_move (u := (.slice p52 el1.length q53)) (ev rfl)).mono ?_; rintro _ _ ⟨rfl, rfl⟩
        exact ⟨fun _ => rfl, Ext.refl _⟩
      refine RW_d _ rfl (fun v => by dsimp only [List.set]; try rfl) (fun u hu hF => ?_) (fun v104 => ?_)
      · have h79_ : β8 = false → v103 = (.slice p52 el1.length q53) := hF.1
        have h75_ : v99 = (Bo β8) := hF.2.1
        clear hF
        obtain rfl := h75_
        refine doesG_g (b := β8) rfl (yld rfl rfl) (fun hg1 => ?_) (fun hc => ⟨fun hg1 => absurd hg1 hc, Ext.refl _⟩)
        obtain rfl := h79_ hg1
        refine (does_indexSl (R := RI) (i := 2) (xs := el1) (e := el4) Try.underlying44 Try.sizeOf2 (ev rfl) (ev rfl) (Sl.ext (Sl.ext hs54 RI.mono E57) RI.mono hu) (by first | omega | (simp only [hβ3, hβ4, hβ5, hβ6, hβ7, hβ8, icmp, Bool.or_eq_false_iff, Bool.not_eq_false', Bool.not_eq_true', decide_eq_true_eq, decide_eq_false_iff_not, bne_eq_false_iff_eq] at hg1; omega) | (simp only [hβ3, hβ4, hβ5, hβ6, hβ7, hβ8, icmp, Bool.or_eq_false_iff, Bool.not_eq_false', Bool.not_eq_true', decide_eq_true_eq, decide_eq_false_iff_not, bne_eq_false_iff_eq] at hg1 hg2; omega)) (hel4 (by first | omega | (simp only [hβ3, hβ4, hβ5, hβ6, hβ7, hβ8, icmp, Bool.or_eq_false_iff, Bool.not_eq_false', Bool.not_eq_true', bne_eq_false_iff_eq] at hg1; omega)))).mono ?_; rintro v u' ⟨b, of, cs, hv, hc, hR, hu'⟩; subst hu'
        exact ⟨fun _ => ⟨b, of, cs, hv, hc, hR⟩, Ext.refl _⟩
      refine RW_d _ rfl (fun v => by dsimp only [List.set]; try rfl) (fun u hu hF => ?_) (fun v105 => ?_)
      · have h80_ : β8 = false → PtrR RI u v104 el4 := hF.1
        have h75_ : v99 = (Bo β8) := hF.2.1
        clear hF
        obtain rfl := h75_
        refine doesG_g (b := β8) rfl (yld rfl rfl) (fun hg1 => ?_) (fun hc => ⟨fun hg1 => absurd hg1 hc, Ext.refl _⟩)
        obtain ⟨b80_, o80_, _, rfl, hc80_, rfl⟩ := h80_ hg1
        refine (does_load (u := (Iv el4)) (ev rfl) Try.isAgg2 (Cells.at hc80_ 0 rfl)).mono ?_; rintro _ _ ⟨rfl, rfl⟩
        exact ⟨fun _ => rfl, Ext.refl _⟩
      refine RW_d _ rfl (fun v => by dsimp only [List.set]; try rfl) (fun u hu hF => ?_) (fun v106 => ?_)
      · have h78_ : β8 = false → v102 = (Iv el3) := hF.1
        have h81_ : β8 = false → v105 = (Iv el4) := hF.2.1
        have h75_ : v99 = (Bo β8) := hF.2.2.1
        clear hF
        obtain rfl := h75_
        refine doesG_g (b := β8) rfl (yld rfl rfl) (fun hg1 => ?_) (fun hc => ⟨fun hg1 => absurd hg1 hc, Ext.refl _⟩)
        obtain rfl := h78_ hg1
        obtain rfl := h81_ hg1
        refine (does_icmp (p := el3) (q := el4) (.inl rfl) (ev rfl) (ev rfl)).mono ?_; rintro _ _ ⟨rfl, rfl⟩
        exact ⟨fun _ => rfl, Ext.refl _⟩
      refine RW_d _ rfl (fun v => by dsimp only [List.set]; try rfl) (fun u hu hF => ?_) (fun v107 => ?_)
      · have h75_ : v99 = (Bo β8) := hF.1
        have h82_ : β8 = false → v106 = (Bo (icmp .eql el3 el4)) := hF.2.1
        clear hF
        refine doesG_un rfl ?_
        skip
        obtain rfl := h75_
        refine (does_pick (b := β8) (u := (Bo true)) (v := v106) (ev rfl) (ev rfl) (ev rfl)).mono ?_; rintro _ _ ⟨rfl, rfl⟩; refine ⟨?_, Ext.refl _⟩; rw [hβ9]; skip
        cases hbb : β8
        all_goals first | (show _ = _; simp only [↓reduceIte, Bool.true_and, Bool.false_and, Bool.true_or, Bool.false_or, Bool.false_eq_true]; done) | (have e_ := h82_ hbb; subst e_; show _ = _; simp only [↓reduceIte, Bool.true_and, Bool.false_and, Bool.true_or, Bool.false_or, Bool.false_eq_true]; done) | rfl | (have e_ := h82_ hbb; subst e_; rfl) | (simp [hbb] at h82_ ⊢; first | done | rfl | (subst h82_; rfl) | simp_all) | (simp [hbb] at h82_ ⊢; done)
      refine RW_d _ rfl (fun v => by dsimp only [List.set]; try rfl) (fun u hu hF => ?_) (fun v108 => ?_)
      · have h83_ : v107 = (Bo β9) := hF.1
        clear hF
        refine doesG_un rfl ?_
        obtain rfl := h83_
        refine (does_move (u := (Bo β9)) (ev rfl)).mono ?_; rintro _ _ ⟨rfl, rfl⟩
        exact ⟨rfl, Ext.refl _⟩
      refine RW_d _ rfl (fun v => by dsimp only [List.set]; try rfl) (fun u hu hF => ?_) (fun v109 => ?_)
      · have h84_ : v108 = (Bo β9) := hF.1
        clear hF
        obtain rfl := h84_
        refine doesG_g (b := β9) rfl (yld rfl rfl) (fun hg1 => ?_) (fun hc => ⟨fun hg1 => absurd hg1 hc, Ext.refl _⟩)
        refine (does_move (u := (.slice p52 el1.length q53)) (ev rfl)).mono ?_; rintro _ _ ⟨rfl, rfl⟩
        exact ⟨fun _ => rfl, Ext.refl _⟩
      refine RW_d _ rfl (fun v => by dsimp only [List.set]; try rfl) (fun u hu hF => ?_) (fun v110 => ?_)
      · have h85_ : β9 = false → v109 = (.slice p52 el1.length q53) := hF.1
        have h84_ : v108 = (Bo β9) := hF.2.1
        clear hF
        obtain rfl := h84_
        refine doesG_g (b := β9) rfl (yld rfl rfl) (fun hg1 => ?_) (fun hc => ⟨fun hg1 => absurd hg1 hc, Ext.refl _⟩)
        obtain rfl := h85_ hg1
        refine (does_indexSl (R := RI) (i := 2) (xs := el1) (e := el4) Try.underlying44 Try.sizeOf2 (ev rfl) (ev rfl) (Sl.ext (Sl.ext hs54 RI.mono E57) RI.mono hu) (by first | omega | (simp only [hβ3, hβ4, hβ5, hβ6, hβ7, hβ8, hβ9, icmp, Bool.or_eq_false_iff, Bool.not_eq_false', Bool.not_eq_true', decide_eq_true_eq, decide_eq_false_iff_not, bne_eq_false_iff_eq] at hg1; omega) | (simp only [hβ3, hβ4, hβ5, hβ6, hβ7, hβ8, hβ9, icmp, Bool.or_eq_false_iff, Bool.not_eq_false', Bool.not_eq_true', decide_eq_true_eq, decide_eq_false_iff_not, bne_eq_false_iff_eq] at hg1 hg2; omega)) (hel4 (by first | omega | (simp only [hβ3, hβ4, hβ5, hβ6, hβ7, hβ8, hβ9, icmp, Bool.or_eq_false_iff, Bool.not_eq_false', Bool.not_eq_true', bne_eq_false_iff_eq] at hg1; omega)))).mono ?_; rintro v u' ⟨b, of, cs, hv, hc, hR, hu'⟩; subst hu'
        exact ⟨fun _ => ⟨b, of, cs, hv, hc, hR⟩, Ext.refl _⟩
      refine RW_d _ rfl (fun v => by dsimp only [List.set]; try rfl) (fun u hu hF => ?_) (fun v111 => ?_)
      · have h86_ : β9 = false → PtrR RI u v110 el4 := hF.1
        have h84_ : v108 = (Bo β9) := hF.2.1
        clear hF
        obtain rfl := h84_
        refine doesG_g (b := β9) rfl (yld rfl rfl) (fun hg1 => ?_) (fun hc => ⟨fun hg1 => absurd hg1 hc, Ext.refl _⟩)
        obtain ⟨b86_, o86_, _, rfl, hc86_, rfl⟩ := h86_ hg1
        refine (does_load (u := (Iv el4)) (ev rfl) Try.isAgg2 (Cells.at hc86_ 0 rfl)).mono ?_; rintro _ _ ⟨rfl, rfl⟩
        exact ⟨fun _ => rfl, Ext.refl _⟩
      refine RW_d _ rfl (fun v => by dsimp only [List.set]; try rfl) (fun u hu hF => ?_) (fun v112 => ?_)
      · have h84_ : v108 = (Bo β9) := hF.1
        clear hF
        obtain rfl := h84_
        refine doesG_g (b := β9) rfl (yld rfl rfl) (fun hg1 => ?_) (fun hc => ⟨fun hg1 => absurd hg1 hc, Ext.refl _⟩)
        refine (does_move (u := (.slice p52 el1.length q53)) (ev rfl)).mono ?_; rintro _ _ ⟨rfl, rfl⟩
        exact ⟨fun _ => rfl, Ext.refl _⟩
      refine RW_d _ rfl (fun v => by dsimp only [List.set]; try rfl) (fun u hu hF => ?_) (fun v113 => ?_)
      · have h88_ : β9 = false → v112 = (.slice p52 el1.length q53) := hF.1
        have h84_ : v108 = (Bo β9) := hF.2.1
        clear hF
        obtain rfl := h84_
        refine doesG_g (b := β9) rfl (yld rfl rfl) (fun hg1 => ?_) (fun hc => ⟨fun hg1 => absurd hg1 hc, Ext.refl _⟩)
        obtain rfl := h88_ hg1
        refine (does_indexSl (R := RI) (i := 0) (xs := el1) (e := el2) Try.underlying44 Try.sizeOf2 (ev rfl) (ev rfl) (Sl.ext (Sl.ext hs54 RI.mono E57) RI.mono hu) (by first | omega | (simp only [hβ3, hβ4, hβ5, hβ6, hβ7, hβ8, hβ9, icmp, Bool.or_eq_false_iff, Bool.not_eq_false', Bool.not_eq_true', decide_eq_true_eq, decide_eq_false_iff_not, bne_eq_false_iff_eq] at hg1; omega) | (simp only [hβ3, hβ4, hβ5, hβ6, hβ7, hβ8, hβ9, icmp, Bool.or_eq_false_iff, Bool.not_eq_false', Bool.not_eq_true', decide_eq_true_eq, decide_eq_false_iff_not, bne_eq_false_iff_eq] at hg1 hg2; omega)) (hel2 (by first | omega | (simp only [hβ3, hβ4, hβ5, hβ6, hβ7, hβ8, hβ9, icmp, Bool.or_eq_false_iff, Bool.not_eq_false', Bool.not_eq_true', bne_eq_false_iff_eq] at hg1; omega)))).mono ?_; rintro v u' ⟨b, of, cs, hv, hc, hR, hu'⟩; subst hu'
        exact ⟨fun _ => ⟨b, of, cs, hv, hc, hR⟩, Ext.refl _⟩
      refine RW_d _ rfl (fun v => by dsimp only [List.set]; try rfl) (fun u hu hF => ?_) (fun v114 => ?_)
      · have h89_ : β9 = false → PtrR RI u v113 el2 := hF.1
        have h84_ : v108 = (Bo β9) := hF.2.1
        clear hF
        obtain rfl := h84_
        refine doesG_g (b := β9) rfl (yld rfl rfl) (fun hg1 => ?_) (fun hc => ⟨fun hg1 => absurd hg1 hc, Ext.refl _⟩)
        obtain ⟨b89_, o89_, _, rfl, hc89_, rfl⟩ := h89_ hg1
        refine (does_load (u := (Iv el2)) (ev rfl) Try.isAgg2 (Cells.at hc89_ 0 rfl)).mono ?_; rintro _ _ ⟨rfl, rfl⟩
        exact ⟨fun _ => rfl, Ext.refl _⟩
      refine RW_d _ rfl (fun v => by dsimp only [List.set]; try rfl) (fun u hu hF => ?_) (fun v115 => ?_)
      · have h87_ : β9 = false → v111 = (Iv el4) := hF.1
        have h90_ : β9 = false → v114 = (Iv el2) := hF.2.1
        have h84_ : v108 = (Bo β9) := hF.2.2.1
        clear hF
        obtain rfl := h84_
        refine doesG_g (b := β9) rfl (yld rfl rfl) (fun hg1 => ?_) (fun hc => ⟨fun hg1 => absurd hg1 hc, Ext.refl _⟩)
        obtain rfl := h87_ hg1
        obtain rfl := h90_ hg1
        refine (does_icmp (p := el4) (q := el2) (.inl rfl) (ev rfl) (ev rfl)).mono ?_; rintro _ _ ⟨rfl, rfl⟩
        exact ⟨fun _ => rfl, Ext.refl _⟩
      refine RW_d _ rfl (fun v => by dsimp only [List.set]; try rfl) (fun u hu hF => ?_) (fun v116 => ?_)
      · have h84_ : v108 = (Bo β9) := hF.1
        have h91_ : β9 = false → v115 = (Bo (icmp .eql el4 el2)) := hF.2.1
        clear hF
        refine doesG_un rfl ?_
        skip
        obtain rfl := h84_
        refine (does_pick (b := β9) (u := (Bo true)) (v := v115) (ev rfl) (ev rfl) (ev rfl)).mono ?_; rintro _ _ ⟨rfl, rfl⟩; refine ⟨?_, Ext.refl _⟩; rw [hβ10]; skip
        cases hbb : β9
        all_goals first | (show _ = _; simp only [↓reduceIte, Bool.true_and, Bool.false_and, Bool.true_or, Bool.false_or, Bool.false_eq_true]; done) | (have e_ := h91_ hbb; subst e_; show _ = _; simp only [↓reduceIte, Bool.true_and, Bool.false_and, Bool.true_or, Bool.false_or, Bool.false_eq_true]; done) | rfl | (have e_ := h91_ hbb; subst e_; rfl) | (simp [hbb] at h91_ ⊢; first | done | rfl | (subst h91_; rfl) | simp_all) | (simp [hbb] at h91_ ⊢; done)
      refine RW_fin ?_; intro w117 E118 hP119
      obtain ⟨⟨⟨⟨⟨⟨⟨⟨⟨⟨⟨⟨⟨⟨⟨⟨⟨⟨⟨⟨⟨⟨⟨⟨⟨⟨⟨⟨⟨⟨⟨⟨⟨⟨⟨⟨⟨⟨⟨⟨⟨⟨⟨⟨⟨⟨⟨⟨⟨⟨⟨⟨⟨⟨⟨⟨⟨-, -⟩, -⟩, -⟩, -⟩, -⟩, -⟩, -⟩, -⟩, -⟩, -⟩, -⟩, -⟩, -⟩, -⟩, -⟩, -⟩, -⟩, -⟩, -⟩, -⟩, -⟩, -⟩, -⟩, -⟩, -⟩, -⟩, -⟩, -⟩, -⟩, -⟩, -⟩, -⟩, -⟩, -⟩, -⟩, -⟩, -⟩, -⟩, -⟩, -⟩, -⟩, -⟩, -⟩, -⟩, -⟩, -⟩, -⟩, -⟩, -⟩, -⟩, -⟩, -⟩, -⟩, -⟩, -⟩, -⟩, q120⟩ := hP119
      have X121 := Ext.gr X59 E118
      have q120 : v116 = (Bo β10) := q120
      obtain rfl := q120
      show wpList _ _ _ _ (fr [_, _, _, _, _, _, _, _, _, _, _, _, _, _, _, _, _, _, _, _, _, _, _, _, _, _, _, _, _, _, _, _, _, _, _, _, _, _, _, _, _, _, _, _, _, _, _, _, _, _, _, _, _, _, _, _, _, _, _, _, _, _, _, _, _, _, _, _, _, _, _, _, _, _, _, _, _, _, _, _, _, _, _, _, _, _, _, _, _, _, _, _, _, _]) _
      refine wpList_nil (hK55 _ _ ?_)
      refine wp_cond_split (t := β10) (ev rfl) (fun c122 => ?_) (fun c122 => ?_)
      · have c122' := c122
        (try simp only [hβ1, hβ2, hβ3, hβ4, hβ5, hβ6, hβ7, hβ8, hβ9, hβ10] at c122')
        (try simp only [icmp, Bool.and_eq_true, Bool.or_eq_true, Bool.and_eq_false_iff, Bool.or_eq_false_iff, Bool.not_eq_true', Bool.not_eq_false', decide_eq_true_eq, decide_eq_false_iff_not, beq_iff_eq, bne_iff_ne, beq_eq_false_iff_ne, bne_eq_false_iff_eq] at c122')
        refine wp_seq_k fun K123 hK123 => ?_
        refine wp_region_lit ?_
        refine q_is rfl rfl (does_assign (u := (Bo false)) (ev rfl)) (by dsimp only [List.set]; try rfl) ?_
        refine wpList_nil (hK123 _ _ ?_)
        refine wp_ret ?_
        dsimp only [Exit.then, Exit.inBlock]
        refine ret_val (v := (Bo false)) (res_T rfl (slot rfl)) X121 ?_
        try simp only [hβ1, hβ2, hel1, hβ3, hβ4, hβ5, hβ6, hβ7, hβ8, hβ9, hβ10] at c30 c42 c122
        have x124 : (meshOk A_m) = false := by first | exact meshOk_big (by assumption) | exact meshOk_bad (by assumption) (triS_bad (by assumption) (by assumption) (by assumption) (by assumption)) | exact meshOk_ok (by assumption) hal (by omega)
        exact (by first | with_reducible rfl | rw [x124] | rfl)
      have c122' := c122
      (try simp only [hβ1, hβ2, hβ3, hβ4, hβ5, hβ6, hβ7, hβ8, hβ9, hβ10] at c122')
      (try simp only [icmp, Bool.and_eq_true, Bool.or_eq_true, Bool.and_eq_false_iff, Bool.or_eq_false_iff, Bool.not_eq_true', Bool.not_eq_false', decide_eq_true_eq, decide_eq_false_iff_not, beq_iff_eq, bne_iff_ne, beq_eq_false_iff_ne, bne_eq_false_iff_eq] at c122')
      refine wp_skip (hK43 _ _ ?_)
      refine wp_region_lit ?_
      refine q_is rfl rfl (does_iarith (p := (k : Int)) (q := 1) (r := (k : Int) + 1) (ev rfl) (ev rfl) (.inl ⟨rfl, (in_i64 (by omega) (by omega)).symm⟩)) (by dsimp only [List.set]; try rfl) ?_
      refine q_is rfl rfl (does_move (u := (Iv ((k : Int) + 1))) (ev rfl)) (by dsimp only [List.set]; try rfl) ?_
      refine wpList_nil ?_
      refine ⟨k + 1, ⟨fun t => (([(Pt m_b m_o), Ud, (u35 2), (Iv (A_m.places.length : Int)), (Iv (k : Int)), (.slice p52 el1.length q53), (Pt m_b m_o), (Pt m_b m_o), (Pt m_b m_o), (.slice p5 A_m.places.length q6), (Iv (A_m.places.length : Int)), v15, v16, v17, v18, v19, v20, v21, v22, v23, (Bo (β1 || β2)), (Pt m_b m_o), (Pt m_b m_o), (Pt m_b (m_o + 1)), (.slice p8 A_m.tris.length q9), (Iv (A_m.tris.length : Int)), (Iv ((k : Int) + 1)), (Bo (icmp .lss (k : Int) (A_m.tris.length : Int))), (Iv (k : Int)), (Pt m_b m_o), (Pt m_b m_o), (Pt m_b (m_o + 1)), (.slice p8 A_m.tris.length q9), (Iv (k : Int)), (Pt b46 o47), (.slice p52 el1.length q53), v60, v61, v62, v63, v64, v65, v66, v67, v68, v69, v70, v71, v72, v73, v74, v75, v76, v77, v78, v79, v80, v81, v82, v83, v84, v85, v86, v87, v88, v89, v90, v91, v92, v93, v94, v95, v96, v97, v98, v99, v100, v101, v102, v103, v104, v105, v106, v107, v108, v109, v110, v111, v112, v113, v114, v115, (Bo β10), (Iv ((k : Int) + 1))] : List Value)[t]?).getD undef, ?_, (Ext.gr (Ext.gr E37 E57) E118), ?_⟩, ?_⟩
      · first | rfl | (simp only [Int.natCast_add, Int.natCast_one]; rfl)
      · exact ⟨by omega, AllTo.step hal (by assumption) (triS_ok (by assumption) (by assumption) (by assumption) (by assumption))⟩
      · omega
    have c42' := c42
    (try simp only [hβ1, hβ2] at c42')
    (try simp only [icmp, Bool.and_eq_true, Bool.or_eq_true, Bool.and_eq_false_iff, Bool.or_eq_false_iff, Bool.not_eq_true', Bool.not_eq_false', decide_eq_true_eq, decide_eq_false_iff_not, beq_iff_eq, bne_iff_ne, beq_eq_false_iff_ne, bne_eq_false_iff_eq] at c42')
    refine wp_exit ?_
    refine hK33 _ _ ?_
    refine wp_seq_k fun K125 hK125 => ?_
    refine wp_region_lit ?_
    refine q_is rfl rfl (does_assign (u := (Bo true)) (ev rfl)) (by dsimp only [List.set]; try rfl) ?_
    refine wpList_nil (hK125 _ _ ?_)
    refine wp_ret ?_
    refine ret_val (v := (Bo true)) (res_T rfl (slot rfl)) X39 ?_
    try simp only [hβ1, hβ2] at c30 c42
    have x126 : (meshOk A_m) = true := by first | exact meshOk_big (by assumption) | exact meshOk_bad (by assumption) (triS_bad (by assumption) (by assumption) (by assumption) (by assumption)) | exact meshOk_ok (by assumption) hal (by omega)
    exact (by first | with_reducible rfl | rw [x126] | rfl)

/- spec.l01Cross -/
theorem c_spec_l01Cross (a : List Value) (A_a : V3) (b : List Value) (A_b : V3) (w : World) (hv_a : RV3 w A_a a) (hv_b : RV3 w A_b b) : Gives Try.prog 28 #[(.agg a.toArray), (.agg b.toArray)] w (fun v w' => ∃ cs_1 : List Value, v = (.agg cs_1.toArray) ∧ RV3 w (crossF A_a A_b) cs_1) := by
  obtain ⟨r1, r3, r5, rfl, h2, h4, h6⟩ := hv_a
  obtain ⟨r7, r9, r11, rfl, h8, h10, h12⟩ := hv_b
  refine enter [(.agg #[(Fl r1), (Fl r3), (Fl r5)]), (.agg #[(Fl r7), (Fl r9), (Fl r11)]), Ud, Ud, Ud, Ud, Ud, Ud, Ud, Ud, Ud, Ud, Ud, Ud, Ud, Ud, Ud, Ud, Ud, Ud, Ud, Ud, Ud, Ud, Ud, Ud, Ud, Ud, Ud, Ud, Ud, Ud, Ud, Ud, Ud, Ud, Ud, Ud, Ud] Try.func28 rfl Try.ntmps28 rfl ?_
  refine wp_seq_k fun K13 hK13 => ?_
  refine wp_region_lit ?_
  refine seqd rfl rfl (does_box (u := (.agg #[(Fl r1), (Fl r3), (Fl r5)])) (ev rfl)) ?_; rintro _ w18 ⟨b14, rfl, hb15, hB16, E17⟩
  have g19 : w.heap.size ≤ b14 := Nat.le_trans (Below.size (Ext.refl w)) hb15
  change Blk _ _ [(Fl r1), (Fl r3), (Fl r5)] at hB16
  have X20 := Ext.gr (Ext.refl w) E17
  show wpList _ _ _ _ (fr [_, _, _, _, _, _, _, _, _, _, _, _, _, _, _, _, _, _, _, _, _, _, _, _, _, _, _, _, _, _, _, _, _, _, _, _, _, _, _]) _
  refine seqd rfl rfl (does_box (u := (.agg #[(Fl r7), (Fl r9), (Fl r11)])) (ev rfl)) ?_; rintro _ w25 ⟨b21, rfl, hb22, hB23, E24⟩
  have n26 : b14 < b21 := Nat.lt_of_lt_of_le (Blk.lt hB16) hb22
  have g27 : w.heap.size ≤ b21 := Nat.le_trans (Below.size X20) hb22
  change Blk _ _ [(Fl r7), (Fl r9), (Fl r11)] at hB23
  have X28 := Ext.gr X20 E24
  show wpList _ _ _ _ (fr [_, _, _, _, _, _, _, _, _, _, _, _, _, _, _, _, _, _, _, _, _, _, _, _, _, _, _, _, _, _, _, _, _, _, _, _, _, _, _]) _
  refine seqd rfl rfl (does_alloc z53) ?_; rintro _ w33 ⟨b29, rfl, hb30, hB31, E32⟩
  have n34 : b14 < b29 := Nat.lt_of_lt_of_le (Blk.lt (hB16.ext E24)) hb30
  have n35 : b21 < b29 := Nat.lt_of_lt_of_le (Blk.lt hB23) hb30
  have g36 : w.heap.size ≤ b29 := Nat.le_trans (Below.size X28) hb30
  change Blk _ _ [(Fl 0), (Fl 0), (Fl 0)] at hB31
  have X37 := Ext.gr X28 E32
  show wpList _ _ _ _ (fr [_, _, _, _, _, _, _, _, _, _, _, _, _, _, _, _, _, _, _, _, _, _, _, _, _, _, _, _, _, _, _, _, _, _, _, _, _, _, _]) _
  refine wpList_nil (hK13 _ _ ?_)
  refine wp_seq_k fun K38 hK38 => ?_
  refine wp_region_lit ?_
  refine q_is rfl rfl (does_fieldAddr (ev rfl) fa53_1) (by dsimp only [List.set]; try rfl) ?_
  refine q_is rfl rfl (does_load (u := (Fl r3)) (ev rfl) Try.isAgg51 (Cells.at (Blk.cells ((hB16.ext E24).ext E32)) 1 rfl)) (by dsimp only [List.set]; try rfl) ?_
  refine q_is rfl rfl (does_fieldAddr (ev rfl) fa53_2) (by dsimp only [List.set]; try rfl) ?_
  refine q_is rfl rfl (does_load (u := (Fl r11)) (ev rfl) Try.isAgg51 (Cells.at (Blk.cells (hB23.ext E32)) 2 rfl)) (by dsimp only [List.set]; try rfl) ?_
  refine seqd rfl rfl (does_float (.inr (.inr (.inl rfl))) (ev rfl) (ev rfl)) ?_; rintro _ w42 ⟨r39, rfl, h40, E41⟩
  have X43 := Ext.gr X37 E41
  show wpList _ _ _ _ (fr [_, _, _, _, _, _, _, _, _, _, _, _, _, _, _, _, _, _, _, _, _, _, _, _, _, _, _, _, _, _, _, _, _, _, _, _, _, _, _]) _
  refine q_is rfl rfl (does_fieldAddr (ev rfl) fa53_2) (by dsimp only [List.set]; try rfl) ?_
  refine q_is rfl rfl (does_load (u := (Fl r5)) (ev rfl) Try.isAgg51 (Cells.at (Blk.cells (((hB16.ext E24).ext E32).ext E41)) 2 rfl)) (by dsimp only [List.set]; try rfl) ?_
  refine q_is rfl rfl (does_fieldAddr (ev rfl) fa53_1) (by dsimp only [List.set]; try rfl) ?_
  refine q_is rfl rfl (does_load (u := (Fl r9)) (ev rfl) Try.isAgg51 (Cells.at (Blk.cells ((hB23.ext E32).ext E41)) 1 rfl)) (by dsimp only [List.set]; try rfl) ?_
  refine seqd rfl rfl (does_float (.inr (.inr (.inl rfl))) (ev rfl) (ev rfl)) ?_; rintro _ w47 ⟨r44, rfl, h45, E46⟩
  have X48 := Ext.gr X43 E46
  show wpList _ _ _ _ (fr [_, _, _, _, _, _, _, _, _, _, _, _, _, _, _, _, _, _, _, _, _, _, _, _, _, _, _, _, _, _, _, _, _, _, _, _, _, _, _]) _
  refine seqd rfl rfl (does_float (.inr (.inl rfl)) (ev rfl) (ev rfl)) ?_; rintro _ w52 ⟨r49, rfl, h50, E51⟩
  have X53 := Ext.gr X48 E51
  show wpList _ _ _ _ (fr [_, _, _, _, _, _, _, _, _, _, _, _, _, _, _, _, _, _, _, _, _, _, _, _, _, _, _, _, _, _, _, _, _, _, _, _, _, _, _]) _
  refine q_is rfl rfl (does_fieldAddr (ev rfl) fa53_2) (by dsimp only [List.set]; try rfl) ?_
  refine q_is rfl rfl (does_load (u := (Fl r5)) (ev rfl) Try.isAgg51 (Cells.at (Blk.cells (((((hB16.ext E24).ext E32).ext E41).ext E46).ext E51)) 2 rfl)) (by dsimp only [List.set]; try rfl) ?_
  refine q_is rfl rfl (does_fieldAddr (ev rfl) fa53_0) (by dsimp only [List.set]; try rfl) ?_
  refine q_is rfl rfl (does_load (u := (Fl r7)) (ev rfl) Try.isAgg51 (Cells.at (Blk.cells ((((hB23.ext E32).ext E41).ext E46).ext E51)) 0 rfl)) (by dsimp only [List.set]; try rfl) ?_
  refine seqd rfl rfl (does_float (.inr (.inr (.inl rfl))) (ev rfl) (ev rfl)) ?_; rintro _ w57 ⟨r54, rfl, h55, E56⟩
  have X58 := Ext.gr X53 E56
  show wpList _ _ _ _ (fr [_, _, _, _, _, _, _, _, _, _, _, _, _, _, _, _, _, _, _, _, _, _, _, _, _, _, _, _, _, _, _, _, _, _, _, _, _, _, _]) _
  refine q_is rfl rfl (does_fieldAddr (ev rfl) fa53_0) (by dsimp only [List.set]; try rfl) ?_
  refine q_is rfl rfl (does_load (u := (Fl r1)) (ev rfl) Try.isAgg51 (Cells.at (Blk.cells ((((((hB16.ext E24).ext E32).ext E41).ext E46).ext E51).ext E56)) 0 rfl)) (by dsimp only [List.set]; try rfl) ?_
  refine q_is rfl rfl (does_fieldAddr (ev rfl) fa53_2) (by dsimp only [List.set]; try rfl) ?_
  refine q_is rfl rfl (does_load (u := (Fl r11)) (ev rfl) Try.isAgg51 (Cells.at (Blk.cells (((((hB23.ext E32).ext E41).ext E46).ext E51).ext E56)) 2 rfl)) (by dsimp only [List.set]; try rfl) ?_
  refine seqd rfl rfl (does_float (.inr (.inr (.inl rfl))) (ev rfl) (ev rfl)) ?_; rintro _ w62 ⟨r59, rfl, h60, E61⟩
  have X63 := Ext.gr X58 E61
  show wpList _ _ _ _ (fr [_, _, _, _, _, _, _, _, _, _, _, _, _, _, _, _, _, _, _, _, _, _, _, _, _, _, _, _, _, _, _, _, _, _, _, _, _, _, _]) _
  refine seqd rfl rfl (does_float (.inr (.inl rfl)) (ev rfl) (ev rfl)) ?_; rintro _ w67 ⟨r64, rfl, h65, E66⟩
  have X68 := Ext.gr X63 E66
  show wpList _ _ _ _ (fr [_, _, _, _, _, _, _, _, _, _, _, _, _, _, _, _, _, _, _, _, _, _, _, _, _, _, _, _, _, _, _, _, _, _, _, _, _, _, _]) _
  refine q_is rfl rfl (does_fieldAddr (ev rfl) fa53_0) (by dsimp only [List.set]; try rfl) ?_
  refine q_is rfl rfl (does_load (u := (Fl r1)) (ev rfl) Try.isAgg51 (Cells.at (Blk.cells ((((((((hB16.ext E24).ext E32).ext E41).ext E46).ext E51).ext E56).ext E61).ext E66)) 0 rfl)) (by dsimp only [List.set]; try rfl) ?_
  refine q_is rfl rfl (does_fieldAddr (ev rfl) fa53_1) (by dsimp only [List.set]; try rfl) ?_
  refine q_is rfl rfl (does_load (u := (Fl r9)) (ev rfl) Try.isAgg51 (Cells.at (Blk.cells (((((((hB23.ext E32).ext E41).ext E46).ext E51).ext E56).ext E61).ext E66)) 1 rfl)) (by dsimp only [List.set]; try rfl) ?_
  refine seqd rfl rfl (does_float (.inr (.inr (.inl rfl))) (ev rfl) (ev rfl)) ?_; rintro _ w72 ⟨r69, rfl, h70, E71⟩
  have X73 := Ext.gr X68 E71
  show wpList _ _ _ _ (fr [_, _, _, _, _, _, _, _, _, _, _, _, _, _, _, _, _, _, _, _, _, _, _, _, _, _, _, _, _, _, _, _, _, _, _, _, _, _, _]) _
  refine q_is rfl rfl (does_fieldAddr (ev rfl) fa53_1) (by dsimp only [List.set]; try rfl) ?_
  refine q_is rfl rfl (does_load (u := (Fl r3)) (ev rfl) Try.isAgg51 (Cells.at (Blk.cells (((((((((hB16.ext E24).ext E32).ext E41).ext E46).ext E51).ext E56).ext E61).ext E66).ext E71)) 1 rfl)) (by dsimp only [List.set]; try rfl) ?_
  refine q_is rfl rfl (does_fieldAddr (ev rfl) fa53_0) (by dsimp only [List.set]; try rfl) ?_
  refine q_is rfl rfl (does_load (u := (Fl r7)) (ev rfl) Try.isAgg51 (Cells.at (Blk.cells ((((((((hB23.ext E32).ext E41).ext E46).ext E51).ext E56).ext E61).ext E66).ext E71)) 0 rfl)) (by dsimp only [List.set]; try rfl) ?_
  refine seqd rfl rfl (does_float (.inr (.inr (.inl rfl))) (ev rfl) (ev rfl)) ?_; rintro _ w77 ⟨r74, rfl, h75, E76⟩
  have X78 := Ext.gr X73 E76
  show wpList _ _ _ _ (fr [_, _, _, _, _, _, _, _, _, _, _, _, _, _, _, _, _, _, _, _, _, _, _, _, _, _, _, _, _, _, _, _, _, _, _, _, _, _, _]) _
  refine seqd rfl rfl (does_float (.inr (.inl rfl)) (ev rfl) (ev rfl)) ?_; rintro _ w82 ⟨r79, rfl, h80, E81⟩
  have X83 := Ext.gr X78 E81
  show wpList _ _ _ _ (fr [_, _, _, _, _, _, _, _, _, _, _, _, _, _, _, _, _, _, _, _, _, _, _, _, _, _, _, _, _, _, _, _, _, _, _, _, _, _, _]) _
  refine q_is rfl rfl (does_build (parts' := [(0, (Fl r49)), (1, (Fl r64)), (2, (Fl r79))]) (cells := #[(Fl r49), (Fl r64), (Fl r79)]) (evp rfl) (by kernel_rfl)) (by dsimp only [List.set]; try rfl) ?_
  refine seqn rfl rfl (does_store (n := 3) (cs := [(Fl 0), (Fl 0), (Fl 0)]) (u := (.agg #[(Fl r49), (Fl r64), (Fl r79)])) (ev rfl) (ev rfl) Try.sizeOf53 rfl (((((((((hB31.ext E41).ext E46).ext E51).ext E56).ext E61).ext E66).ext E71).ext E76).ext E81) (Nat.le_of_ble_eq_true rfl) rfl) ?_; rintro _ w86 ⟨rfl, W84, hB85⟩
  change Blk _ _ [(Fl r49), (Fl r64), (Fl r79)] at hB85
  have X87 := Below.wr X83 W84 g36
  refine wpList_nil (hK38 _ _ ?_)
  refine wp_ret ?_
  refine ret_val (v := (.agg #[(Fl r49), (Fl r64), (Fl r79)])) (res_C rfl (slot rfl) (run_loadAgg (cs := [(Fl r49), (Fl r64), (Fl r79)]) Try.isAgg53 Try.sizeOf53 (Blk.cells hB85) rfl)) X87 ?_
  have x88 : cf .f32 r49 = (crossF A_a A_b).x := by first | with_reducible rfl | (simp only [crossF, h2, h4, h6, h8, h10, h12, h40, h45, h50, h55, h60, h65, h70, h75, h80]; done) | (simp [crossF, h2, h4, h6, h8, h10, h12, h40, h45, h50, h55, h60, h65, h70, h75, h80]; done) | rfl
  have x89 : cf .f32 r64 = (crossF A_a A_b).y := by first | with_reducible rfl | (simp only [crossF, h2, h4, h6, h8, h10, h12, h40, h45, h50, h55, h60, h65, h70, h75, h80]; done) | (simp [crossF, h2, h4, h6, h8, h10, h12, h40, h45, h50, h55, h60, h65, h70, h75, h80]; done) | rfl
  have x90 : cf .f32 r79 = (crossF A_a A_b).z := by first | with_reducible rfl | (simp only [crossF, h2, h4, h6, h8, h10, h12, h40, h45, h50, h55, h60, h65, h70, h75, h80]; done) | (simp [crossF, h2, h4, h6, h8, h10, h12, h40, h45, h50, h55, h60, h65, h70, h75, h80]; done) | rfl
  exact ⟨[(Fl r49), (Fl r64), (Fl r79)], rfl, ⟨r49, r64, r79, rfl, x88, x89, x90⟩⟩

/- spec.l01Less -/
theorem c_spec_l01Less (a : List Value) (A_a : V3) (b : List Value) (A_b : V3) (w : World) (hv_a : RV3 w A_a a) (hv_b : RV3 w A_b b) : Gives Try.prog 29 #[(.agg a.toArray), (.agg b.toArray)] w (fun v w' => ∃ cs_1 : List Value, v = (.agg cs_1.toArray) ∧ RV3 w (vsub A_a A_b) cs_1) := by
  obtain ⟨r1, r3, r5, rfl, h2, h4, h6⟩ := hv_a
  obtain ⟨r7, r9, r11, rfl, h8, h10, h12⟩ := hv_b
  refine enter [(.agg #[(Fl r1), (Fl r3), (Fl r5)]), (.agg #[(Fl r7), (Fl r9), (Fl r11)]), Ud, Ud, Ud, Ud, Ud, Ud, Ud, Ud, Ud, Ud, Ud, Ud, Ud, Ud, Ud, Ud, Ud, Ud, Ud] Try.func29 rfl Try.ntmps29 rfl ?_
  refine wp_seq_k fun K13 hK13 => ?_
  refine wp_region_lit ?_
  refine seqd rfl rfl (does_box (u := (.agg #[(Fl r1), (Fl r3), (Fl r5)])) (ev rfl)) ?_; rintro _ w18 ⟨b14, rfl, hb15, hB16, E17⟩
  have g19 : w.heap.size ≤ b14 := Nat.le_trans (Below.size (Ext.refl w)) hb15
  change Blk _ _ [(Fl r1), (Fl r3), (Fl r5)] at hB16
  have X20 := Ext.gr (Ext.refl w) E17
  show wpList _ _ _ _ (fr [(.agg #[(Fl r1), (Fl r3), (Fl r5)]), (.agg #[(Fl r7), (Fl r9), (Fl r11)]), (Pt b14 0), Ud, Ud, Ud, Ud, Ud, Ud, Ud, Ud, Ud, Ud, Ud, Ud, Ud, Ud, Ud, Ud, Ud, Ud]) _
  refine seqd rfl rfl (does_box (u := (.agg #[(Fl r7), (Fl r9), (Fl r11)])) (ev rfl)) ?_; rintro _ w25 ⟨b21, rfl, hb22, hB23, E24⟩
  have n26 : b14 < b21 := Nat.lt_of_lt_of_le (Blk.lt hB16) hb22
  have g27 : w.heap.size ≤ b21 := Nat.le_trans (Below.size X20) hb22
  change Blk _ _ [(Fl r7), (Fl r9), (Fl r11)] at hB23
  have X28 := Ext.gr X20 E24
  show wpList _ _ _ _ (fr [(.agg #[(Fl r1), (Fl r3), (Fl r5)]), (.agg #[(Fl r7), (Fl r9), (Fl r11)]), (Pt b14 0), (Pt b21 0), Ud, Ud, Ud, Ud, Ud, Ud, Ud, Ud, Ud, Ud, Ud, Ud, Ud, Ud, Ud, Ud, Ud]) _
  refine seqd rfl rfl (does_alloc z53) ?_; rintro _ w33 ⟨b29, rfl, hb30, hB31, E32⟩
  have n34 : b14 < b29 := Nat.lt_of_lt_of_le (Blk.lt (hB16.ext E24)) hb30
  have n35 : b21 < b29 := Nat.lt_of_lt_of_le (Blk.lt hB23) hb30
  have g36 : w.heap.size ≤ b29 := Nat.le_trans (Below.size X28) hb30
  change Blk _ _ [(Fl 0), (Fl 0), (Fl 0)] at hB31
  have X37 := Ext.gr X28 E32
  show wpList _ _ _ _ (fr [(.agg #[(Fl r1), (Fl r3), (Fl r5)]), (.agg #[(Fl r7), (Fl r9), (Fl r11)]), (Pt b14 0), (Pt b21 0), (Pt b29 0), Ud, Ud, Ud, Ud, Ud, Ud, Ud, Ud, Ud, Ud, Ud, Ud, Ud, Ud, Ud, Ud]) _
  refine wpList_nil (hK13 _ _ ?_)
  refine wp_seq_k fun K38 hK38 => ?_
  refine wp_region_lit ?_
  refine q_is (l' := [(.agg #[(Fl r1), (Fl r3), (Fl r5)]), (.agg #[(Fl r7), (Fl r9), (Fl r11)]), (Pt b14 0), (Pt b21 0), (Pt b29 0), (Pt b14 0), Ud, Ud, Ud, Ud, Ud, Ud, Ud, Ud, Ud, Ud, Ud, Ud, Ud, Ud, Ud]) rfl rfl (does_fieldAddr (ev rfl) fa53_0) rfl ?_
  refine q_is (l' := [(.agg #[(Fl r1), (Fl r3), (Fl r5)]), (.agg #[(Fl r7), (Fl r9), (Fl r11)]), (Pt b14 0), (Pt b21 0), (Pt b29 0), (Pt b14 0), (Fl r1), Ud, Ud, Ud, Ud, Ud, Ud, Ud, Ud, Ud, Ud, Ud, Ud, Ud, Ud]) rfl rfl (does_load (u := (Fl r1)) (ev rfl) Try.isAgg51 (Cells.at (Blk.cells ((hB16.ext E24).ext E32)) 0 rfl)) rfl ?_
  refine q_is (l' := [(.agg #[(Fl r1), (Fl r3), (Fl r5)]), (.agg #[(Fl r7), (Fl r9), (Fl r11)]), (Pt b14 0), (Pt b21 0), (Pt b29 0), (Pt b14 0), (Fl r1), (Pt b21 0), Ud, Ud, Ud, Ud, Ud, Ud, Ud, Ud, Ud, Ud, Ud, Ud, Ud]) rfl rfl (does_fieldAddr (ev rfl) fa53_0) rfl ?_
  refine q_is (l' := [(.agg #[(Fl r1), (Fl r3), (Fl r5)]), (.agg #[(Fl r7), (Fl r9), (Fl r11)]), (Pt b14 0), (Pt b21 0), (Pt b29 0), (Pt b14 0), (Fl r1), (Pt b21 0), (Fl r7), Ud, Ud, Ud, Ud, Ud, Ud, Ud, Ud, Ud, Ud, Ud, Ud]) rfl rfl (does_load (u := (Fl r7)) (ev rfl) Try.isAgg51 (Cells.at (Blk.cells (hB23.ext E32)) 0 rfl)) rfl ?_
  refine seqd rfl rfl (does_float (.inr (.inl rfl)) (ev rfl) (ev rfl)) ?_; rintro _ w42 ⟨r39, rfl, h40, E41⟩
  have X43 := Ext.gr X37 E41
  show wpList _ _ _ _ (fr [(.agg #[(Fl r1), (Fl r3), (Fl r5)]), (.agg #[(Fl r7), (Fl r9), (Fl r11)]), (Pt b14 0), (Pt b21 0), (Pt b29 0), (Pt b14 0), (Fl r1), (Pt b21 0), (Fl r7), (Fl r39), Ud, Ud, Ud, Ud, Ud, Ud, Ud, Ud, Ud, Ud, Ud]) _
  refine q_is (l' := [(.agg #[(Fl r1), (Fl r3), (Fl r5)]), (.agg #[(Fl r7), (Fl r9), (Fl r11)]), (Pt b14 0), (Pt b21 0), (Pt b29 0), (Pt b14 0), (Fl r1), (Pt b21 0), (Fl r7), (Fl r39), (Pt b14 1), Ud, Ud, Ud, Ud, Ud, Ud, Ud, Ud, Ud, Ud]) rfl rfl (does_fieldAddr (ev rfl) fa53_1) rfl ?_
  refine q_is (l' := [(.agg #[(Fl r1), (Fl r3), (Fl r5)]), (.agg #[(Fl r7), (Fl r9), (Fl r11)]), (Pt b14 0), (Pt b21 0), (Pt b29 0), (Pt b14 0), (Fl r1), (Pt b21 0), (Fl r7), (Fl r39), (Pt b14 1), (Fl r3), Ud, Ud, Ud, Ud, Ud, Ud, Ud, Ud, Ud]) rfl rfl (does_load (u := (Fl r3)) (ev rfl) Try.isAgg51 (Cells.at (Blk.cells (((hB16.ext E24).ext E32).ext E41)) 1 rfl)) rfl ?_
  refine q_is (l' := [(.agg #[(Fl r1), (Fl r3), (Fl r5)]), (.agg #[(Fl r7), (Fl r9), (Fl r11)]), (Pt b14 0), (Pt b21 0), (Pt b29 0), (Pt b14 0), (Fl r1), (Pt b21 0), (Fl r7), (Fl r39), (Pt b14 1), (Fl r3), (Pt b21 1), Ud, Ud, Ud, Ud, Ud, Ud, Ud, Ud]) rfl rfl (does_fieldAddr (ev rfl) fa53_1) rfl ?_
  refine q_is (l' := [(.agg #[(Fl r1), (Fl r3), (Fl r5)]), (.agg #[(Fl r7), (Fl r9), (Fl r11)]), (Pt b14 0), (Pt b21 0), (Pt b29 0), (Pt b14 0), (Fl r1), (Pt b21 0), (Fl r7), (Fl r39), (Pt b14 1), (Fl r3), (Pt b21 1), (Fl r9), Ud, Ud, Ud, Ud, Ud, Ud, Ud]) rfl rfl (does_load (u := (Fl r9)) (ev rfl) Try.isAgg51 (Cells.at (Blk.cells ((hB23.ext E32).ext E41)) 1 rfl)) rfl ?_
  refine seqd rfl rfl (does_float (.inr (.inl rfl)) (ev rfl) (ev rfl)) ?_; rintro _ w47 ⟨r44, rfl, h45, E46⟩
  have X48 := Ext.gr X43 E46
  show wpList _ _ _ _ (fr [(.agg #[(Fl r1), (Fl r3), (Fl r5)]), (.agg #[(Fl r7), (Fl r9), (Fl r11)]), (Pt b14 0), (Pt b21 0), (Pt b29 0), (Pt b14 0), (Fl r1), (Pt b21 0), (Fl r7), (Fl r39), (Pt b14 1), (Fl r3), (Pt b21 1), (Fl r9), (Fl r44), Ud, Ud, Ud, Ud, Ud, Ud]) _
  refine q_is (l' := [(.agg #[(Fl r1), (Fl r3), (Fl r5)]), (.agg #[(Fl r7), (Fl r9), (Fl r11)]), (Pt b14 0), (Pt b21 0), (Pt b29 0), (Pt b14 0), (Fl r1), (Pt b21 0), (Fl r7), (Fl r39), (Pt b14 1), (Fl r3), (Pt b21 1), (Fl r9), (Fl r44), (Pt b14 2), Ud, Ud, Ud, Ud, Ud]) rfl rfl (does_fieldAddr (ev rfl) fa53_2) rfl ?_
  refine q_is (l' := [(.agg #[(Fl r1), (Fl r3), (Fl r5)]), (.agg #[(Fl r7), (Fl r9), (Fl r11)]), (Pt b14 0), (Pt b21 0), (Pt b29 0), (Pt b14 0), (Fl r1), (Pt b21 0), (Fl r7), (Fl r39), (Pt b14 1), (Fl r3), (Pt b21 1), (Fl r9), (Fl r44), (Pt b14 2), (Fl r5), Ud, Ud, Ud, Ud]) rfl rfl (does_load (u := (Fl r5)) (ev rfl) Try.isAgg51 (Cells.at (Blk.cells ((((hB16.ext E24).ext E32).ext E41).ext E46)) 2 rfl)) rfl ?_
  refine q_is (l' := [(.agg #[(Fl r1), (Fl r3), (Fl r5)]), (.agg #[(Fl r7), (Fl r9), (Fl r11)]), (Pt b14 0), (Pt b21 0), (Pt b29 0), (Pt b14 0), (Fl r1), (Pt b21 0), (Fl r7), (Fl r39), (Pt b14 1), (Fl r3), (Pt b21 1), (Fl r9), (Fl r44), (Pt b14 2), (Fl r5), (Pt b21 2), Ud, Ud, Ud]) rfl rfl (does_fieldAddr (ev rfl) fa53_2) rfl ?_
  refine q_is (l' := [(.agg #[(Fl r1), (Fl r3), (Fl r5)]), (.agg #[(Fl r7), (Fl r9), (Fl r11)]), (Pt b14 0), (Pt b21 0), (Pt b29 0), (Pt b14 0), (Fl r1), (Pt b21 0), (Fl r7), (Fl r39), (Pt b14 1), (Fl r3), (Pt b21 1), (Fl r9), (Fl r44), (Pt b14 2), (Fl r5), (Pt b21 2), (Fl r11), Ud, Ud]) rfl rfl (does_load (u := (Fl r11)) (ev rfl) Try.isAgg51 (Cells.at (Blk.cells (((hB23.ext E32).ext E41).ext E46)) 2 rfl)) rfl ?_
  refine seqd rfl rfl (does_float (.inr (.inl rfl)) (ev rfl) (ev rfl)) ?_; rintro _ w52 ⟨r49, rfl, h50, E51⟩
  have X53 := Ext.gr X48 E51
  show wpList _ _ _ _ (fr [(.agg #[(Fl r1), (Fl r3), (Fl r5)]), (.agg #[(Fl r7), (Fl r9), (Fl r11)]), (Pt b14 0), (Pt b21 0), (Pt b29 0), (Pt b14 0), (Fl r1), (Pt b21 0), (Fl r7), (Fl r39), (Pt b14 1), (Fl r3), (Pt b21 1), (Fl r9), (Fl r44), (Pt b14 2), (Fl r5), (Pt b21 2), (Fl r11), (Fl r49), Ud]) _
  refine q_is (l' := [(.agg #[(Fl r1), (Fl r3), (Fl r5)]), (.agg #[(Fl r7), (Fl r9), (Fl r11)]), (Pt b14 0), (Pt b21 0), (Pt b29 0), (Pt b14 0), (Fl r1), (Pt b21 0), (Fl r7), (Fl r39), (Pt b14 1), (Fl r3), (Pt b21 1), (Fl r9), (Fl r44), (Pt b14 2), (Fl r5), (Pt b21 2), (Fl r11), (Fl r49), (.agg #[(Fl r39), (Fl r44), (Fl r49)])]) rfl rfl (does_build (parts' := [(0, (Fl r39)), (1, (Fl r44)), (2, (Fl r49))]) (cells := #[(Fl r39), (Fl r44), (Fl r49)]) (evp rfl) (by kernel_rfl)) rfl ?_
  refine seqn rfl rfl (does_store (n := 3) (cs := [(Fl 0), (Fl 0), (Fl 0)]) (u := (.agg #[(Fl r39), (Fl r44), (Fl r49)])) (ev rfl) (ev rfl) Try.sizeOf53 rfl (((hB31.ext E41).ext E46).ext E51) (Nat.le_of_ble_eq_true rfl) rfl) ?_; rintro _ w56 ⟨rfl, W54, hB55⟩
  change Blk _ _ [(Fl r39), (Fl r44), (Fl r49)] at hB55
  have X57 := Below.wr X53 W54 g36
  refine wpList_nil (hK38 _ _ ?_)
  refine wp_ret ?_
  refine ret_val (v := (.agg #[(Fl r39), (Fl r44), (Fl r49)])) (res_C rfl (slot rfl) (run_loadAgg (cs := [(Fl r39), (Fl r44), (Fl r49)]) Try.isAgg53 Try.sizeOf53 (Blk.cells hB55) rfl)) X57 ?_
  have x58 : cf .f32 r39 = (vsub A_a A_b).x := by first | with_reducible rfl | (simp only [vsub, h2, h4, h6, h8, h10, h12, h40, h45, h50]; done) | (simp [vsub, h2, h4, h6, h8, h10, h12, h40, h45, h50]; done) | rfl
  have x59 : cf .f32 r44 = (vsub A_a A_b).y := by first | with_reducible rfl | (simp only [vsub, h2, h4, h6, h8, h10, h12, h40, h45, h50]; done) | (simp [vsub, h2, h4, h6, h8, h10, h12, h40, h45, h50]; done) | rfl
  have x60 : cf .f32 r49 = (vsub A_a A_b).z := by first | with_reducible rfl | (simp only [vsub, h2, h4, h6, h8, h10, h12, h40, h45, h50]; done) | (simp [vsub, h2, h4, h6, h8, h10, h12, h40, h45, h50]; done) | rfl
  exact ⟨[(Fl r39), (Fl r44), (Fl r49)], rfl, ⟨r39, r44, r49, rfl, x58, x59, x60⟩⟩

/- spec.l01Add -/
theorem c_spec_l01Add (a : List Value) (A_a : V3) (b : List Value) (A_b : V3) (w : World) (hv_a : RV3 w A_a a) (hv_b : RV3 w A_b b) : Gives Try.prog 30 #[(.agg a.toArray), (.agg b.toArray)] w (fun v w' => ∃ cs_1 : List Value, v = (.agg cs_1.toArray) ∧ RV3 w (vadd A_a A_b) cs_1) := by
  obtain ⟨r1, r3, r5, rfl, h2, h4, h6⟩ := hv_a
  obtain ⟨r7, r9, r11, rfl, h8, h10, h12⟩ := hv_b
  refine enter [(.agg #[(Fl r1), (Fl r3), (Fl r5)]), (.agg #[(Fl r7), (Fl r9), (Fl r11)]), Ud, Ud, Ud, Ud, Ud, Ud, Ud, Ud, Ud, Ud, Ud, Ud, Ud, Ud, Ud, Ud, Ud, Ud, Ud] Try.func30 rfl Try.ntmps30 rfl ?_
  refine wp_seq_k fun K13 hK13 => ?_
  refine wp_region_lit ?_
  refine seqd rfl rfl (does_box (u := (.agg #[(Fl r1), (Fl r3), (Fl r5)])) (ev rfl)) ?_; rintro _ w18 ⟨b14, rfl, hb15, hB16, E17⟩
  have g19 : w.heap.size ≤ b14 := Nat.le_trans (Below.size (Ext.refl w)) hb15
  change Blk _ _ [(Fl r1), (Fl r3), (Fl r5)] at hB16
  have X20 := Ext.gr (Ext.refl w) E17
  show wpList _ _ _ _ (fr [(.agg #[(Fl r1), (Fl r3), (Fl r5)]), (.agg #[(Fl r7), (Fl r9), (Fl r11)]), (Pt b14 0), Ud, Ud, Ud, Ud, Ud, Ud, Ud, Ud, Ud, Ud, Ud, Ud, Ud, Ud, Ud, Ud, Ud, Ud]) _
  refine seqd rfl rfl (does_box (u := (.agg #[(Fl r7), (Fl r9), (Fl r11)])) (ev rfl)) ?_; rintro _ w25 ⟨b21, rfl, hb22, hB23, E24⟩
  have n26 : b14 < b21 := Nat.lt_of_lt_of_le (Blk.lt hB16) hb22
  have g27 : w.heap.size ≤ b21 := Nat.le_trans (Below.size X20) hb22
  change Blk _ _ [(Fl r7), (Fl r9), (Fl r11)] at hB23
  have X28 := Ext.gr X20 E24
  show wpList _ _ _ _ (fr [(.agg #[(Fl r1), (Fl r3), (Fl r5)]), (.agg #[(Fl r7), (Fl r9), (Fl r11)]), (Pt b14 0), (Pt b21 0), Ud, Ud, Ud, Ud, Ud, Ud, Ud, Ud, Ud, Ud, Ud, Ud, Ud, Ud, Ud, Ud, Ud]) _
  refine seqd rfl rfl (does_alloc z53) ?_; rintro _ w33 ⟨b29, rfl, hb30, hB31, E32⟩
  have n34 : b14 < b29 := Nat.lt_of_lt_of_le (Blk.lt (hB16.ext E24)) hb30
  have n35 : b21 < b29 := Nat.lt_of_lt_of_le (Blk.lt hB23) hb30
  have g36 : w.heap.size ≤ b29 := Nat.le_trans (Below.size X28) hb30
  change Blk _ _ [(Fl 0), (Fl 0), (Fl 0)] at hB31
  have X37 := Ext.gr X28 E32
  show wpList _ _ _ _ (fr [(.agg #[(Fl r1), (Fl r3), (Fl r5)]), (.agg #[(Fl r7), (Fl r9), (Fl r11)]), (Pt b14 0), (Pt b21 0), (Pt b29 0), Ud, Ud, Ud, Ud, Ud, Ud, Ud, Ud, Ud, Ud, Ud, Ud, Ud, Ud, Ud, Ud]) _
  refine wpList_nil (hK13 _ _ ?_)
  refine wp_seq_k fun K38 hK38 => ?_
  refine wp_region_lit ?_
  refine q_is (l' := [(.agg #[(Fl r1), (Fl r3), (Fl r5)]), (.agg #[(Fl r7), (Fl r9), (Fl r11)]), (Pt b14 0), (Pt b21 0), (Pt b29 0), (Pt b14 0), Ud, Ud, Ud, Ud, Ud, Ud, Ud, Ud, Ud, Ud, Ud, Ud, Ud, Ud, Ud]) rfl rfl (does_fieldAddr (ev rfl) fa53_0) rfl ?_
  refine q_is (l' := [(.agg #[(Fl r1), (Fl r3), (Fl r5)]), (.agg #[(Fl r7), (Fl r9), (Fl r11)]), (Pt b14 0), (Pt b21 0), (Pt b29 0), (Pt b14 0), (Fl r1), Ud, Ud, Ud, Ud, Ud, Ud, Ud, Ud, Ud, Ud, Ud, Ud, Ud, Ud]) rfl rfl (does_load (u := (Fl r1)) (ev rfl) Try.isAgg51 (Cells.at (Blk.cells ((hB16.ext E24).ext E32)) 0 rfl)) rfl ?_
  refine q_is (l' := [(.agg #[(Fl r1), (Fl r3), (Fl r5)]), (.agg #[(Fl r7), (Fl r9), (Fl r11)]), (Pt b14 0), (Pt b21 0), (Pt b29 0), (Pt b14 0), (Fl r1), (Pt b21 0), Ud, Ud, Ud, Ud, Ud, Ud, Ud, Ud, Ud, Ud, Ud, Ud, Ud]) rfl rfl (does_fieldAddr (ev rfl) fa53_0) rfl ?_
  refine q_is (l' := [(.agg #[(Fl r1), (Fl r3), (Fl r5)]), (.agg #[(Fl r7), (Fl r9), (Fl r11)]), (Pt b14 0), (Pt b21 0), (Pt b29 0), (Pt b14 0), (Fl r1), (Pt b21 0), (Fl r7), Ud, Ud, Ud, Ud, Ud, Ud, Ud, Ud, Ud, Ud, Ud, Ud]) rfl rfl (does_load (u := (Fl r7)) (ev rfl) Try.isAgg51 (Cells.at (Blk.cells (hB23.ext E32)) 0 rfl)) rfl ?_
  refine seqd rfl rfl (does_float (.inl rfl) (ev rfl) (ev rfl)) ?_; rintro _ w42 ⟨r39, rfl, h40, E41⟩
  have X43 := Ext.gr X37 E41
  show wpList _ _ _ _ (fr [(.agg #[(Fl r1), (Fl r3), (Fl r5)]), (.agg #[(Fl r7), (Fl r9), (Fl r11)]), (Pt b14 0), (Pt b21 0), (Pt b29 0), (Pt b14 0), (Fl r1), (Pt b21 0), (Fl r7), (Fl r39), Ud, Ud, Ud, Ud, Ud, Ud, Ud, Ud, Ud, Ud, Ud]) _
  refine q_is (l' := [(.agg #[(Fl r1), (Fl r3), (Fl r5)]), (.agg #[(Fl r7), (Fl r9), (Fl r11)]), (Pt b14 0), (Pt b21 0), (Pt b29 0), (Pt b14 0), (Fl r1), (Pt b21 0), (Fl r7), (Fl r39), (Pt b14 1), Ud, Ud, Ud, Ud, Ud, Ud, Ud, Ud, Ud, Ud]) rfl rfl (does_fieldAddr (ev rfl) fa53_1) rfl ?_
  refine q_is (l' := [(.agg #[(Fl r1), (Fl r3), (Fl r5)]), (.agg #[(Fl r7), (Fl r9), (Fl r11)]), (Pt b14 0), (Pt b21 0), (Pt b29 0), (Pt b14 0), (Fl r1), (Pt b21 0), (Fl r7), (Fl r39), (Pt b14 1), (Fl r3), Ud, Ud, Ud, Ud, Ud, Ud, Ud, Ud, Ud]) rfl rfl (does_load (u := (Fl r3)) (ev rfl) Try.isAgg51 (Cells.at (Blk.cells (((hB16.ext E24).ext E32).ext E41)) 1 rfl)) rfl ?_
  refine q_is (l' := [(.agg #[(Fl r1), (Fl r3), (Fl r5)]), (.agg #[(Fl r7), (Fl r9), (Fl r11)]), (Pt b14 0), (Pt b21 0), (Pt b29 0), (Pt b14 0), (Fl r1), (Pt b21 0), (Fl r7), (Fl r39), (Pt b14 1), (Fl r3), (Pt b21 1), Ud, Ud, Ud, Ud, Ud, Ud, Ud, Ud]) rfl rfl (does_fieldAddr (ev rfl) fa53_1) rfl ?_
  refine q_is (l' := [(.agg #[(Fl r1), (Fl r3), (Fl r5)]), (.agg #[(Fl r7), (Fl r9), (Fl r11)]), (Pt b14 0), (Pt b21 0), (Pt b29 0), (Pt b14 0), (Fl r1), (Pt b21 0), (Fl r7), (Fl r39), (Pt b14 1), (Fl r3), (Pt b21 1), (Fl r9), Ud, Ud, Ud, Ud, Ud, Ud, Ud]) rfl rfl (does_load (u := (Fl r9)) (ev rfl) Try.isAgg51 (Cells.at (Blk.cells ((hB23.ext E32).ext E41)) 1 rfl)) rfl ?_
  refine seqd rfl rfl (does_float (.inl rfl) (ev rfl) (ev rfl)) ?_; rintro _ w47 ⟨r44, rfl, h45, E46⟩
  have X48 := Ext.gr X43 E46
  show wpList _ _ _ _ (fr [(.agg #[(Fl r1), (Fl r3), (Fl r5)]), (.agg #[(Fl r7), (Fl r9), (Fl r11)]), (Pt b14 0), (Pt b21 0), (Pt b29 0), (Pt b14 0), (Fl r1), (Pt b21 0), (Fl r7), (Fl r39), (Pt b14 1), (Fl r3), (Pt b21 1), (Fl r9), (Fl r44), Ud, Ud, Ud, Ud, Ud, Ud]) _
  refine q_is (l' := [(.agg #[(Fl r1), (Fl r3), (Fl r5)]), (.agg #[(Fl r7), (Fl r9), (Fl r11)]), (Pt b14 0), (Pt b21 0), (Pt b29 0), (Pt b14 0), (Fl r1), (Pt b21 0), (Fl r7), (Fl r39), (Pt b14 1), (Fl r3), (Pt b21 1), (Fl r9), (Fl r44), (Pt b14 2), Ud, Ud, Ud, Ud, Ud]) rfl rfl (does_fieldAddr (ev rfl) fa53_2) rfl ?_
  refine q_is (l' := [(.agg #[(Fl r1), (Fl r3), (Fl r5)]), (.agg #[(Fl r7), (Fl r9), (Fl r11)]), (Pt b14 0), (Pt b21 0), (Pt b29 0), (Pt b14 0), (Fl r1), (Pt b21 0), (Fl r7), (Fl r39), (Pt b14 1), (Fl r3), (Pt b21 1), (Fl r9), (Fl r44), (Pt b14 2), (Fl r5), Ud, Ud, Ud, Ud]) rfl rfl (does_load (u := (Fl r5)) (ev rfl) Try.isAgg51 (Cells.at (Blk.cells ((((hB16.ext E24).ext E32).ext E41).ext E46)) 2 rfl)) rfl ?_
  refine q_is (l' := [(.agg #[(Fl r1), (Fl r3), (Fl r5)]), (.agg #[(Fl r7), (Fl r9), (Fl r11)]), (Pt b14 0), (Pt b21 0), (Pt b29 0), (Pt b14 0), (Fl r1), (Pt b21 0), (Fl r7), (Fl r39), (Pt b14 1), (Fl r3), (Pt b21 1), (Fl r9), (Fl r44), (Pt b14 2), (Fl r5), (Pt b21 2), Ud, Ud, Ud]) rfl rfl (does_fieldAddr (ev rfl) fa53_2) rfl ?_
  refine q_is (l' := [(.agg #[(Fl r1), (Fl r3), (Fl r5)]), (.agg #[(Fl r7), (Fl r9), (Fl r11)]), (Pt b14 0), (Pt b21 0), (Pt b29 0), (Pt b14 0), (Fl r1), (Pt b21 0), (Fl r7), (Fl r39), (Pt b14 1), (Fl r3), (Pt b21 1), (Fl r9), (Fl r44), (Pt b14 2), (Fl r5), (Pt b21 2), (Fl r11), Ud, Ud]) rfl rfl (does_load (u := (Fl r11)) (ev rfl) Try.isAgg51 (Cells.at (Blk.cells (((hB23.ext E32).ext E41).ext E46)) 2 rfl)) rfl ?_
  refine seqd rfl rfl (does_float (.inl rfl) (ev rfl) (ev rfl)) ?_; rintro _ w52 ⟨r49, rfl, h50, E51⟩
  have X53 := Ext.gr X48 E51
  show wpList _ _ _ _ (fr [(.agg #[(Fl r1), (Fl r3), (Fl r5)]), (.agg #[(Fl r7), (Fl r9), (Fl r11)]), (Pt b14 0), (Pt b21 0), (Pt b29 0), (Pt b14 0), (Fl r1), (Pt b21 0), (Fl r7), (Fl r39), (Pt b14 1), (Fl r3), (Pt b21 1), (Fl r9), (Fl r44), (Pt b14 2), (Fl r5), (Pt b21 2), (Fl r11), (Fl r49), Ud]) _
  refine q_is (l' := [(.agg #[(Fl r1), (Fl r3), (Fl r5)]), (.agg #[(Fl r7), (Fl r9), (Fl r11)]), (Pt b14 0), (Pt b21 0), (Pt b29 0), (Pt b14 0), (Fl r1), (Pt b21 0), (Fl r7), (Fl r39), (Pt b14 1), (Fl r3), (Pt b21 1), (Fl r9), (Fl r44), (Pt b14 2), (Fl r5), (Pt b21 2), (Fl r11), (Fl r49), (.agg #[(Fl r39), (Fl r44), (Fl r49)])]) rfl rfl (does_build (parts' := [(0, (Fl r39)), (1, (Fl r44)), (2, (Fl r49))]) (cells := #[(Fl r39), (Fl r44), (Fl r49)]) (evp rfl) (by kernel_rfl)) rfl ?_
  refine seqn rfl rfl (does_store (n := 3) (cs := [(Fl 0), (Fl 0), (Fl 0)]) (u := (.agg #[(Fl r39), (Fl r44), (Fl r49)])) (ev rfl) (ev rfl) Try.sizeOf53 rfl (((hB31.ext E41).ext E46).ext E51) (Nat.le_of_ble_eq_true rfl) rfl) ?_; rintro _ w56 ⟨rfl, W54, hB55⟩
  change Blk _ _ [(Fl r39), (Fl r44), (Fl r49)] at hB55
  have X57 := Below.wr X53 W54 g36
  refine wpList_nil (hK38 _ _ ?_)
  refine wp_ret ?_
  refine ret_val (v := (.agg #[(Fl r39), (Fl r44), (Fl r49)])) (res_C rfl (slot rfl) (run_loadAgg (cs := [(Fl r39), (Fl r44), (Fl r49)]) Try.isAgg53 Try.sizeOf53 (Blk.cells hB55) rfl)) X57 ?_
  have x58 : cf .f32 r39 = (vadd A_a A_b).x := by first | with_reducible rfl | (simp only [vadd, h2, h4, h6, h8, h10, h12, h40, h45, h50]; done) | (simp [vadd, h2, h4, h6, h8, h10, h12, h40, h45, h50]; done) | rfl
  have x59 : cf .f32 r44 = (vadd A_a A_b).y := by first | with_reducible rfl | (simp only [vadd, h2, h4, h6, h8, h10, h12, h40, h45, h50]; done) | (simp [vadd, h2, h4, h6, h8, h10, h12, h40, h45, h50]; done) | rfl
  have x60 : cf .f32 r49 = (vadd A_a A_b).z := by first | with_reducible rfl | (simp only [vadd, h2, h4, h6, h8, h10, h12, h40, h45, h50]; done) | (simp [vadd, h2, h4, h6, h8, h10, h12, h40, h45, h50]; done) | rfl
  exact ⟨[(Fl r39), (Fl r44), (Fl r49)], rfl, ⟨r39, r44, r49, rfl, x58, x59, x60⟩⟩

/- spec.l01Narrow -/
theorem c_spec_l01Narrow (x : Nat) (w : World) (hn : nov (cf .f64 x) = true) : Gives Try.prog 68 #[(Fd x)] w (fun v w' => ∃ r_1 : Nat, v = (Fl r_1) ∧ cf .f32 r_1 = fnar (cf .f64 x)) := by
  refine enter [(Fd x), Ud, Ud, Ud, Ud] Try.func68 rfl Try.ntmps68 rfl ?_
  refine wp_seq_k fun K1 hK1 => ?_
  refine wp_region_lit ?_
  refine q_is (l' := [(Fd x), Ud, (Fl 0), Ud, Ud]) rfl rfl (does_assign (u := (Fl 0)) (ev rfl)) rfl ?_
  refine wpList_nil (hK1 _ _ ?_)
  refine wp_seq_k fun K2 hK2 => ?_
  refine wp_region_lit ?_
  refine q_is (l' := [(Fd x), Ud, (Fl 0), (Fd x), Ud]) rfl rfl (does_move (u := (Fd x)) (ev rfl)) rfl ?_
  refine seqd rfl rfl (does_narrow Try.underlying72 Try.underlying51 (ev rfl) (by first | assumption | (simp only [cf_cf]; exact nov_sqrt _))) ?_; rintro _ w6 ⟨r3, rfl, h4, E5⟩
  have X7 := Ext.gr (Ext.refl w) E5
  show wpList _ _ _ _ (fr [(Fd x), Ud, (Fl 0), (Fd x), (Fl r3)]) _
  refine q_is (l' := [(Fd x), Ud, (Fl r3), (Fd x), (Fl r3)]) rfl rfl (does_assign (u := (Fl r3)) (ev rfl)) rfl ?_
  refine wpList_nil (hK2 _ _ ?_)
  refine wp_ret ?_
  refine ret_val (v := (Fl r3)) (res_T rfl (slot rfl)) X7 ?_
  have x8 : cf .f32 r3 = fnar (cf .f64 x) := by first | with_reducible rfl | (simp only [h4]; done) | (simp [h4]; done) | rfl
  exact ⟨r3, rfl, x8⟩

/- math.Sqrt -/
theorem c_math_Sqrt (x : Nat) (w : World) : Gives Try.prog 69 #[(Fd x)] w (fun v w' => ∃ r_1 : Nat, v = (Fd r_1) ∧ cf .f64 r_1 = fsqrt (cf .f64 x)) := by
  refine enter [(Fd x), Ud, Ud, Ud, Ud] Try.func69 rfl Try.ntmps69 rfl ?_
  refine wp_seq_k fun K1 hK1 => ?_
  refine wp_region_lit ?_
  refine q_is (l' := [(Fd x), Ud, (Fd 0), Ud, Ud]) rfl rfl (does_assign (u := (Fd 0)) (ev rfl)) rfl ?_
  refine wpList_nil (hK1 _ _ ?_)
  refine wp_seq_k fun K2 hK2 => ?_
  refine wp_region_lit ?_
  refine q_is (l' := [(Fd x), Ud, (Fd 0), (Fd x), Ud]) rfl rfl (does_move (u := (Fd x)) (ev rfl)) rfl ?_
  refine seqd rfl rfl (does_sqrt (p := x) (ev rfl) csq71) ?_; rintro _ w6 ⟨r3, rfl, h4, E5⟩
  have X7 := Ext.gr (Ext.refl w) E5
  show wpList _ _ _ _ (fr [(Fd x), Ud, (Fd 0), (Fd x), (Fd r3)]) _
  refine q_is (l' := [(Fd x), Ud, (Fd r3), (Fd x), (Fd r3)]) rfl rfl (does_assign (u := (Fd r3)) (ev rfl)) rfl ?_
  refine wpList_nil (hK2 _ _ ?_)
  refine wp_ret ?_
  refine ret_val (v := (Fd r3)) (res_T rfl (slot rfl)) X7 ?_
  have x8 : cf .f64 r3 = fsqrt (cf .f64 x) := by first | with_reducible rfl | (simp only [h4]; done) | (simp [h4]; done) | rfl
  exact ⟨r3, rfl, x8⟩

/- spec.l01Sqrt -/
theorem c_spec_l01Sqrt (x : Nat) (w : World) : Gives Try.prog 60 #[(Fl x)] w (fun v w' => ∃ r_1 : Nat, v = (Fl r_1) ∧ cf .f32 r_1 = rootF (cf .f32 x)) := by
  refine enter [(Fl x), Ud, Ud, Ud, Ud, Ud, Ud] Try.func60 rfl Try.ntmps60 rfl ?_
  refine wp_seq_k fun K1 hK1 => ?_
  refine wp_region_lit ?_
  refine q_is (l' := [(Fl x), Ud, (Fl 0), Ud, Ud, Ud, Ud]) rfl rfl (does_assign (u := (Fl 0)) (ev rfl)) rfl ?_
  refine wpList_nil (hK1 _ _ ?_)
  refine wp_seq_k fun K2 hK2 => ?_
  refine wp_region_lit ?_
  refine q_is (l' := [(Fl x), Ud, (Fl 0), (Fl x), Ud, Ud, Ud]) rfl rfl (does_move (u := (Fl x)) (ev rfl)) rfl ?_
  refine seqd rfl rfl (does_widen Try.underlying51 Try.underlying72 (ev rfl)) ?_; rintro _ w6 ⟨r3, rfl, h4, E5⟩
  have X7 := Ext.gr (Ext.refl w) E5
  show wpList _ _ _ _ (fr [(Fl x), Ud, (Fl 0), (Fl x), (Fd r3), Ud, Ud]) _
  refine seqd rfl rfl (does_call (args := #[(Fd r3)]) cal69 (evs rfl) (c_math_Sqrt r3 _)) ?_; rintro _ w9 ⟨E8, ⟨r10, rfl, h11⟩⟩
  have X12 := Ext.gr X7 E8
  show wpList _ _ _ _ (fr [(Fl x), Ud, (Fl 0), (Fl x), (Fd r3), (Fd r10), Ud]) _
  refine seqd rfl rfl (does_call (args := #[(Fd r10)]) cal68 (evs rfl) (c_spec_l01Narrow r10 _ (by simp only [h4, h11]; exact nov_sqrt _))) ?_; rintro _ w14 ⟨E13, ⟨r15, rfl, h16⟩⟩
  have X17 := Ext.gr X12 E13
  show wpList _ _ _ _ (fr [(Fl x), Ud, (Fl 0), (Fl x), (Fd r3), (Fd r10), (Fl r15)]) _
  refine q_is (l' := [(Fl x), Ud, (Fl r15), (Fl x), (Fd r3), (Fd r10), (Fl r15)]) rfl rfl (does_assign (u := (Fl r15)) (ev rfl)) rfl ?_
  refine wpList_nil (hK2 _ _ ?_)
  refine wp_ret ?_
  refine ret_val (v := (Fl r15)) (res_T rfl (slot rfl)) X17 ?_
  have x18 : cf .f32 r15 = rootF (cf .f32 x) := by first | with_reducible rfl | (simp only [rootF, h4, h11, h16]; done) | (simp [rootF, h4, h11, h16]; done) | rfl
  exact ⟨r15, rfl, x18⟩

/- spec.l01Inner -/
theorem c_spec_l01Inner (a : List Value) (A_a : V3) (b : List Value) (A_b : V3) (w : World) (hv_a : RV3 w A_a a) (hv_b : RV3 w A_b b) : Gives Try.prog 61 #[(.agg a.toArray), (.agg b.toArray)] w (fun v w' => ∃ r_1 : Nat, v = (Fl r_1) ∧ cf .f32 r_1 = innerF A_a A_b) := by
  obtain ⟨r1, r3, r5, rfl, h2, h4, h6⟩ := hv_a
  obtain ⟨r7, r9, r11, rfl, h8, h10, h12⟩ := hv_b
  refine enter [(.agg #[(Fl r1), (Fl r3), (Fl r5)]), (.agg #[(Fl r7), (Fl r9), (Fl r11)]), Ud, Ud, Ud, Ud, Ud, Ud, Ud, Ud, Ud, Ud, Ud, Ud, Ud, Ud, Ud, Ud, Ud, Ud, Ud, Ud] Try.func61 rfl Try.ntmps61 rfl ?_
  refine wp_seq_k fun K13 hK13 => ?_
  refine wp_region_lit ?_
  refine seqd rfl rfl (does_box (u := (.agg #[(Fl r1), (Fl r3), (Fl r5)])) (ev rfl)) ?_; rintro _ w18 ⟨b14, rfl, hb15, hB16, E17⟩
  have g19 : w.heap.size ≤ b14 := Nat.le_trans (Below.size (Ext.refl w)) hb15
  change Blk _ _ [(Fl r1), (Fl r3), (Fl r5)] at hB16
  have X20 := Ext.gr (Ext.refl w) E17
  show wpList _ _ _ _ (fr [(.agg #[(Fl r1), (Fl r3), (Fl r5)]), (.agg #[(Fl r7), (Fl r9), (Fl r11)]), (Pt b14 0), Ud, Ud, Ud, Ud, Ud, Ud, Ud, Ud, Ud, Ud, Ud, Ud, Ud, Ud, Ud, Ud, Ud, Ud, Ud]) _
  refine seqd rfl rfl (does_box (u := (.agg #[(Fl r7), (Fl r9), (Fl r11)])) (ev rfl)) ?_; rintro _ w25 ⟨b21, rfl, hb22, hB23, E24⟩
  have n26 : b14 < b21 := Nat.lt_of_lt_of_le (Blk.lt hB16) hb22
  have g27 : w.heap.size ≤ b21 := Nat.le_trans (Below.size X20) hb22
  change Blk _ _ [(Fl r7), (Fl r9), (Fl r11)] at hB23
  have X28 := Ext.gr X20 E24
  show wpList _ _ _ _ (fr [(.agg #[(Fl r1), (Fl r3), (Fl r5)]), (.agg #[(Fl r7), (Fl r9), (Fl r11)]), (Pt b14 0), (Pt b21 0), Ud, Ud, Ud, Ud, Ud, Ud, Ud, Ud, Ud, Ud, Ud, Ud, Ud, Ud, Ud, Ud, Ud, Ud]) _
  refine q_is (l' := [(.agg #[(Fl r1), (Fl r3), (Fl r5)]), (.agg #[(Fl r7), (Fl r9), (Fl r11)]), (Pt b14 0), (Pt b21 0), (Fl 0), Ud, Ud, Ud, Ud, Ud, Ud, Ud, Ud, Ud, Ud, Ud, Ud, Ud, Ud, Ud, Ud, Ud]) rfl rfl (does_assign (u := (Fl 0)) (ev rfl)) rfl ?_
  refine wpList_nil (hK13 _ _ ?_)
  refine wp_seq_k fun K29 hK29 => ?_
  refine wp_region_lit ?_
  refine q_is (l' := [(.agg #[(Fl r1), (Fl r3), (Fl r5)]), (.agg #[(Fl r7), (Fl r9), (Fl r11)]), (Pt b14 0), (Pt b21 0), (Fl 0), (Pt b14 0), Ud, Ud, Ud, Ud, Ud, Ud, Ud, Ud, Ud, Ud, Ud, Ud, Ud, Ud, Ud, Ud]) rfl rfl (does_fieldAddr (ev rfl) fa53_0) rfl ?_
  refine q_is (l' := [(.agg #[(Fl r1), (Fl r3), (Fl r5)]), (.agg #[(Fl r7), (Fl r9), (Fl r11)]), (Pt b14 0), (Pt b21 0), (Fl 0), (Pt b14 0), (Fl r1), Ud, Ud, Ud, Ud, Ud, Ud, Ud, Ud, Ud, Ud, Ud, Ud, Ud, Ud, Ud]) rfl rfl (does_load (u := (Fl r1)) (ev rfl) Try.isAgg51 (Cells.at (Blk.cells (hB16.ext E24)) 0 rfl)) rfl ?_
  refine q_is (l' := [(.agg #[(Fl r1), (Fl r3), (Fl r5)]), (.agg #[(Fl r7), (Fl r9), (Fl r11)]), (Pt b14 0), (Pt b21 0), (Fl 0), (Pt b14 0), (Fl r1), (Pt b21 0), Ud, Ud, Ud, Ud, Ud, Ud, Ud, Ud, Ud, Ud, Ud, Ud, Ud, Ud]) rfl rfl (does_fieldAddr (ev rfl) fa53_0) rfl ?_
  refine q_is (l' := [(.agg #[(Fl r1), (Fl r3), (Fl r5)]), (.agg #[(Fl r7), (Fl r9), (Fl r11)]), (Pt b14 0), (Pt b21 0), (Fl 0), (Pt b14 0), (Fl r1), (Pt b21 0), (Fl r7), Ud, Ud, Ud, Ud, Ud, Ud, Ud, Ud, Ud, Ud, Ud, Ud, Ud]) rfl rfl (does_load (u := (Fl r7)) (ev rfl) Try.isAgg51 (Cells.at (Blk.cells hB23) 0 rfl)) rfl ?_
  refine seqd rfl rfl (does_float (.inr (.inr (.inl rfl))) (ev rfl) (ev rfl)) ?_; rintro _ w33 ⟨r30, rfl, h31, E32⟩
  have X34 := Ext.gr X28 E32
  show wpList _ _ _ _ (fr [(.agg #[(Fl r1), (Fl r3), (Fl r5)]), (.agg #[(Fl r7), (Fl r9), (Fl r11)]), (Pt b14 0), (Pt b21 0), (Fl 0), (Pt b14 0), (Fl r1), (Pt b21 0), (Fl r7), (Fl r30), Ud, Ud, Ud, Ud, Ud, Ud, Ud, Ud, Ud, Ud, Ud, Ud]) _
  refine q_is (l' := [(.agg #[(Fl r1), (Fl r3), (Fl r5)]), (.agg #[(Fl r7), (Fl r9), (Fl r11)]), (Pt b14 0), (Pt b21 0), (Fl 0), (Pt b14 0), (Fl r1), (Pt b21 0), (Fl r7), (Fl r30), (Pt b14 1), Ud, Ud, Ud, Ud, Ud, Ud, Ud, Ud, Ud, Ud, Ud]) rfl rfl (does_fieldAddr (ev rfl) fa53_1) rfl ?_
  refine q_is (l' := [(.agg #[(Fl r1), (Fl r3), (Fl r5)]), (.agg #[(Fl r7), (Fl r9), (Fl r11)]), (Pt b14 0), (Pt b21 0), (Fl 0), (Pt b14 0), (Fl r1), (Pt b21 0), (Fl r7), (Fl r30), (Pt b14 1), (Fl r3), Ud, Ud, Ud, Ud, Ud, Ud, Ud, Ud, Ud, Ud]) rfl rfl (does_load (u := (Fl r3)) (ev rfl) Try.isAgg51 (Cells.at (Blk.cells ((hB16.ext E24).ext E32)) 1 rfl)) rfl ?_
  refine q_is (l' := [(.agg #[(Fl r1), (Fl r3), (Fl r5)]), (.agg #[(Fl r7), (Fl r9), (Fl r11)]), (Pt b14 0), (Pt b21 0), (Fl 0), (Pt b14 0), (Fl r1), (Pt b21 0), (Fl r7), (Fl r30), (Pt b14 1), (Fl r3), (Pt b21 1), Ud, Ud, Ud, Ud, Ud, Ud, Ud, Ud, Ud]) rfl rfl (does_fieldAddr (ev rfl) fa53_1) rfl ?_
  refine q_is (l' := [(.agg #[(Fl r1), (Fl r3), (Fl r5)]), (.agg #[(Fl r7), (Fl r9), (Fl r11)]), (Pt b14 0), (Pt b21 0), (Fl 0), (Pt b14 0), (Fl r1), (Pt b21 0), (Fl r7), (Fl r30), (Pt b14 1), (Fl r3), (Pt b21 1), (Fl r9), Ud, Ud, Ud, Ud, Ud, Ud, Ud, Ud]) rfl rfl (does_load (u := (Fl r9)) (ev rfl) Try.isAgg51 (Cells.at (Blk.cells (hB23.ext E32)) 1 rfl)) rfl ?_
  refine seqd rfl rfl (does_float (.inr (.inr (.inl rfl))) (ev rfl) (ev rfl)) ?_; rintro _ w38 ⟨r35, rfl, h36, E37⟩
  have X39 := Ext.gr X34 E37
  show wpList _ _ _ _ (fr [(.agg #[(Fl r1), (Fl r3), (Fl r5)]), (.agg #[(Fl r7), (Fl r9), (Fl r11)]), (Pt b14 0), (Pt b21 0), (Fl 0), (Pt b14 0), (Fl r1), (Pt b21 0), (Fl r7), (Fl r30), (Pt b14 1), (Fl r3), (Pt b21 1), (Fl r9), (Fl r35), Ud, Ud, Ud, Ud, Ud, Ud, Ud]) _
  refine seqd rfl rfl (does_float (.inl rfl) (ev rfl) (ev rfl)) ?_; rintro _ w43 ⟨r40, rfl, h41, E42⟩
  have X44 := Ext.gr X39 E42
  show wpList _ _ _ _ (fr [(.agg #[(Fl r1), (Fl r3), (Fl r5)]), (.agg #[(Fl r7), (Fl r9), (Fl r11)]), (Pt b14 0), (Pt b21 0), (Fl 0), (Pt b14 0), (Fl r1), (Pt b21 0), (Fl r7), (Fl r30), (Pt b14 1), (Fl r3), (Pt b21 1), (Fl r9), (Fl r35), (Fl r40), Ud, Ud, Ud, Ud, Ud, Ud]) _
  refine q_is (l' := [(.agg #[(Fl r1), (Fl r3), (Fl r5)]), (.agg #[(Fl r7), (Fl r9), (Fl r11)]), (Pt b14 0), (Pt b21 0), (Fl 0), (Pt b14 0), (Fl r1), (Pt b21 0), (Fl r7), (Fl r30), (Pt b14 1), (Fl r3), (Pt b21 1), (Fl r9), (Fl r35), (Fl r40), (Pt b14 2), Ud, Ud, Ud, Ud, Ud]) rfl rfl (does_fieldAddr (ev rfl) fa53_2) rfl ?_
  refine q_is (l' := [(.agg #[(Fl r1), (Fl r3), (Fl r5)]), (.agg #[(Fl r7), (Fl r9), (Fl r11)]), (Pt b14 0), (Pt b21 0), (Fl 0), (Pt b14 0), (Fl r1), (Pt b21 0), (Fl r7), (Fl r30), (Pt b14 1), (Fl r3), (Pt b21 1), (Fl r9), (Fl r35), (Fl r40), (Pt b14 2), (Fl r5), Ud, Ud, Ud, Ud]) rfl rfl (does_load (u := (Fl r5)) (ev rfl) Try.isAgg51 (Cells.at (Blk.cells ((((hB16.ext E24).ext E32).ext E37).ext E42)) 2 rfl)) rfl ?_
  refine q_is (l' := [(.agg #[(Fl r1), (Fl r3), (Fl r5)]), (.agg #[(Fl r7), (Fl r9), (Fl r11)]), (Pt b14 0), (Pt b21 0), (Fl 0), (Pt b14 0), (Fl r1), (Pt b21 0), (Fl r7), (Fl r30), (Pt b14 1), (Fl r3), (Pt b21 1), (Fl r9), (Fl r35), (Fl r40), (Pt b14 2), (Fl r5), (Pt b21 2), Ud, Ud, Ud]) rfl rfl (does_fieldAddr (ev rfl) fa53_2) rfl ?_
  refine q_is (l' := [(.agg #[(Fl r1), (Fl r3), (Fl r5)]), (.agg #[(Fl r7), (Fl r9), (Fl r11)]), (Pt b14 0), (Pt b21 0), (Fl 0), (Pt b14 0), (Fl r1), (Pt b21 0), (Fl r7), (Fl r30), (Pt b14 1), (Fl r3), (Pt b21 1), (Fl r9), (Fl r35), (Fl r40), (Pt b14 2), (Fl r5), (Pt b21 2), (Fl r11), Ud, Ud]) rfl rfl (does_load (u := (Fl r11)) (ev rfl) Try.isAgg51 (Cells.at (Blk.cells (((hB23.ext E32).ext E37).ext E42)) 2 rfl)) rfl ?_
  refine seqd rfl rfl (does_float (.inr (.inr (.inl rfl))) (ev rfl) (ev rfl)) ?_; rintro _ w48 ⟨r45, rfl, h46, E47⟩
  have X49 := Ext.gr X44 E47
  show wpList _ _ _ _ (fr [(.agg #[(Fl r1), (Fl r3), (Fl r5)]), (.agg #[(Fl r7), (Fl r9), (Fl r11)]), (Pt b14 0), (Pt b21 0), (Fl 0), (Pt b14 0), (Fl r1), (Pt b21 0), (Fl r7), (Fl r30), (Pt b14 1), (Fl r3), (Pt b21 1), (Fl r9), (Fl r35), (Fl r40), (Pt b14 2), (Fl r5), (Pt b21 2), (Fl r11), (Fl r45), Ud]) _
  refine seqd rfl rfl (does_float (.inl rfl) (ev rfl) (ev rfl)) ?_; rintro _ w53 ⟨r50, rfl, h51, E52⟩
  have X54 := Ext.gr X49 E52
  show wpList _ _ _ _ (fr [(.agg #[(Fl r1), (Fl r3), (Fl r5)]), (.agg #[(Fl r7), (Fl r9), (Fl r11)]), (Pt b14 0), (Pt b21 0), (Fl 0), (Pt b14 0), (Fl r1), (Pt b21 0), (Fl r7), (Fl r30), (Pt b14 1), (Fl r3), (Pt b21 1), (Fl r9), (Fl r35), (Fl r40), (Pt b14 2), (Fl r5), (Pt b21 2), (Fl r11), (Fl r45), (Fl r50)]) _
  refine q_is (l' := [(.agg #[(Fl r1), (Fl r3), (Fl r5)]), (.agg #[(Fl r7), (Fl r9), (Fl r11)]), (Pt b14 0), (Pt b21 0), (Fl r50), (Pt b14 0), (Fl r1), (Pt b21 0), (Fl r7), (Fl r30), (Pt b14 1), (Fl r3), (Pt b21 1), (Fl r9), (Fl r35), (Fl r40), (Pt b14 2), (Fl r5), (Pt b21 2), (Fl r11), (Fl r45), (Fl r50)]) rfl rfl (does_assign (u := (Fl r50)) (ev rfl)) rfl ?_
  refine wpList_nil (hK29 _ _ ?_)
  refine wp_ret ?_
  refine ret_val (v := (Fl r50)) (res_T rfl (slot rfl)) X54 ?_
  have x55 : cf .f32 r50 = innerF A_a A_b := by first | with_reducible rfl | (simp only [innerF, h2, h4, h6, h8, h10, h12, h31, h36, h41, h46, h51]; done) | (simp [innerF, h2, h4, h6, h8, h10, h12, h31, h36, h41, h46, h51]; done) | rfl
  exact ⟨r50, rfl, x55⟩

/- spec.l01Long -/
theorem c_spec_l01Long (v : List Value) (A_v : V3) (w : World) (hv_v : RV3 w A_v v) : Gives Try.prog 48 #[(.agg v.toArray)] w (fun v w' => ∃ r_1 : Nat, v = (Fl r_1) ∧ cf .f32 r_1 = longF A_v) := by
  obtain ⟨r1, r3, r5, rfl, h2, h4, h6⟩ := hv_v
  refine enter [(.agg #[(Fl r1), (Fl r3), (Fl r5)]), Ud, Ud, Ud, Ud, Ud, Ud] Try.func48 rfl Try.ntmps48 rfl ?_
  refine wp_seq_k fun K7 hK7 => ?_
  refine wp_region_lit ?_
  refine seqd rfl rfl (does_box (u := (.agg #[(Fl r1), (Fl r3), (Fl r5)])) (ev rfl)) ?_; rintro _ w12 ⟨b8, rfl, hb9, hB10, E11⟩
  have g13 : w.heap.size ≤ b8 := Nat.le_trans (Below.size (Ext.refl w)) hb9
  change Blk _ _ [(Fl r1), (Fl r3), (Fl r5)] at hB10
  have X14 := Ext.gr (Ext.refl w) E11
  show wpList _ _ _ _ (fr [(.agg #[(Fl r1), (Fl r3), (Fl r5)]), (Pt b8 0), Ud, Ud, Ud, Ud, Ud]) _
  refine q_is (l' := [(.agg #[(Fl r1), (Fl r3), (Fl r5)]), (Pt b8 0), (Fl 0), Ud, Ud, Ud, Ud]) rfl rfl (does_assign (u := (Fl 0)) (ev rfl)) rfl ?_
  refine wpList_nil (hK7 _ _ ?_)
  refine wp_seq_k fun K15 hK15 => ?_
  refine wp_region_lit ?_
  refine q_is (l' := [(.agg #[(Fl r1), (Fl r3), (Fl r5)]), (Pt b8 0), (Fl 0), (.agg #[(Fl r1), (Fl r3), (Fl r5)]), Ud, Ud, Ud]) rfl rfl (does_loadAgg (cs := [(Fl r1), (Fl r3), (Fl r5)]) (ev rfl) Try.isAgg53 Try.sizeOf53 (Blk.cells hB10) rfl) rfl ?_
  refine q_is (l' := [(.agg #[(Fl r1), (Fl r3), (Fl r5)]), (Pt b8 0), (Fl 0), (.agg #[(Fl r1), (Fl r3), (Fl r5)]), (.agg #[(Fl r1), (Fl r3), (Fl r5)]), Ud, Ud]) rfl rfl (does_loadAgg (cs := [(Fl r1), (Fl r3), (Fl r5)]) (ev rfl) Try.isAgg53 Try.sizeOf53 (Blk.cells hB10) rfl) rfl ?_
  refine seqd rfl rfl (does_call (args := #[(.agg #[(Fl r1), (Fl r3), (Fl r5)]), (.agg #[(Fl r1), (Fl r3), (Fl r5)])]) cal61 (evs rfl) (c_spec_l01Inner [(Fl r1), (Fl r3), (Fl r5)] A_v [(Fl r1), (Fl r3), (Fl r5)] A_v _ ⟨r1, r3, r5, rfl, h2, h4, h6⟩ ⟨r1, r3, r5, rfl, h2, h4, h6⟩)) ?_; rintro _ w17 ⟨E16, ⟨r18, rfl, h19⟩⟩
  have X20 := Ext.gr X14 E16
  show wpList _ _ _ _ (fr [(.agg #[(Fl r1), (Fl r3), (Fl r5)]), (Pt b8 0), (Fl 0), (.agg #[(Fl r1), (Fl r3), (Fl r5)]), (.agg #[(Fl r1), (Fl r3), (Fl r5)]), (Fl r18), Ud]) _
  refine seqd rfl rfl (does_call (args := #[(Fl r18)]) cal60 (evs rfl) (c_spec_l01Sqrt r18 _)) ?_; rintro _ w22 ⟨E21, ⟨r23, rfl, h24⟩⟩
  have X25 := Ext.gr X20 E21
  show wpList _ _ _ _ (fr [(.agg #[(Fl r1), (Fl r3), (Fl r5)]), (Pt b8 0), (Fl 0), (.agg #[(Fl r1), (Fl r3), (Fl r5)]), (.agg #[(Fl r1), (Fl r3), (Fl r5)]), (Fl r18), (Fl r23)]) _
  refine q_is (l' := [(.agg #[(Fl r1), (Fl r3), (Fl r5)]), (Pt b8 0), (Fl r23), (.agg #[(Fl r1), (Fl r3), (Fl r5)]), (.agg #[(Fl r1), (Fl r3), (Fl r5)]), (Fl r18), (Fl r23)]) rfl rfl (does_assign (u := (Fl r23)) (ev rfl)) rfl ?_
  refine wpList_nil (hK15 _ _ ?_)
  refine wp_ret ?_
  refine ret_val (v := (Fl r23)) (res_T rfl (slot rfl)) X25 ?_
  have x26 : cf .f32 r23 = longF A_v := by first | with_reducible rfl | (simp only [longF, h2, h4, h6, h19, h24]; done) | (simp [longF, h2, h4, h6, h19, h24]; done) | rfl
  exact ⟨r23, rfl, x26⟩

/- spec.l01Finite -/
theorem c_spec_l01Finite (x : Nat) (w : World) : Gives Try.prog 49 #[(Fl x)] w (fun v w' => v = (Bo (finF (cf .f32 x)))) := by
  refine enter [(Fl x), Ud, Ud, Ud, Ud, Ud, Ud] Try.func49 rfl Try.ntmps49 rfl ?_
  refine wp_seq_k fun K1 hK1 => ?_
  refine wp_region_lit ?_
  refine q_is (l' := [(Fl x), Ud, (Bo false), Ud, Ud, Ud, Ud]) rfl rfl (does_assign (u := (Bo false)) (ev rfl)) rfl ?_
  refine wpList_nil (hK1 _ _ ?_)
  refine wp_seq_k fun K2 hK2 => ?_
  refine wp_region_lit ?_
  refine q_is (l' := [(Fl x), Ud, (Bo false), (Fl x), Ud, Ud, Ud]) rfl rfl (does_move (u := (Fl x)) (ev rfl)) rfl ?_
  refine q_is (l' := [(Fl x), Ud, (Bo false), (Fl x), (Fl x), Ud, Ud]) rfl rfl (does_move (u := (Fl x)) (ev rfl)) rfl ?_
  refine seqd rfl rfl (does_float (.inr (.inl rfl)) (ev rfl) (ev rfl)) ?_; rintro _ w6 ⟨r3, rfl, h4, E5⟩
  have X7 := Ext.gr (Ext.refl w) E5
  show wpList _ _ _ _ (fr [(Fl x), Ud, (Bo false), (Fl x), (Fl x), (Fl r3), Ud]) _
  refine q_is (l' := [(Fl x), Ud, (Bo false), (Fl x), (Fl x), (Fl r3), (Bo (fcmp .eql (ford .f32 (cf .f32 r3) (cf .f32 0))))]) rfl rfl (does_fcmp (.inl rfl) (ev rfl) (ev rfl)) rfl ?_
  refine q_is (l' := [(Fl x), Ud, (Bo (fcmp .eql (ford .f32 (cf .f32 r3) (cf .f32 0)))), (Fl x), (Fl x), (Fl r3), (Bo (fcmp .eql (ford .f32 (cf .f32 r3) (cf .f32 0))))]) rfl rfl (does_assign (u := (Bo (fcmp .eql (ford .f32 (cf .f32 r3) (cf .f32 0))))) (ev rfl)) rfl ?_
  refine wpList_nil (hK2 _ _ ?_)
  refine wp_ret ?_
  refine ret_val (v := (Bo (fcmp .eql (ford .f32 (cf .f32 r3) (cf .f32 0))))) (res_T rfl (slot rfl)) X7 ?_
  have x8 : (finF (cf .f32 x)) = (fcmp .eql (ford .f32 (cf .f32 r3) (cf .f32 0))) := by first | with_reducible rfl | (simp only [finF, h4]; done) | (simp [finF, h4]; done) | rfl
  exact (by first | with_reducible rfl | rw [x8] | rfl)

/- spec.l01Scale -/
theorem c_spec_l01Scale (a : List Value) (A_a : V3) (b : Nat) (w : World) (hv_a : RV3 w A_a a) : Gives Try.prog 50 #[(.agg a.toArray), (Fl b)] w (fun v w' => ∃ cs_1 : List Value, v = (.agg cs_1.toArray) ∧ RV3 w (vscale A_a (cf .f32 b)) cs_1) := by
  obtain ⟨r1, r3, r5, rfl, h2, h4, h6⟩ := hv_a
  refine enter [(.agg #[(Fl r1), (Fl r3), (Fl r5)]), (Fl b), Ud, Ud, Ud, Ud, Ud, Ud, Ud, Ud, Ud, Ud, Ud, Ud, Ud, Ud, Ud, Ud] Try.func50 rfl Try.ntmps50 rfl ?_
  refine wp_seq_k fun K7 hK7 => ?_
  refine wp_region_lit ?_
  refine seqd rfl rfl (does_box (u := (.agg #[(Fl r1), (Fl r3), (Fl r5)])) (ev rfl)) ?_; rintro _ w12 ⟨b8, rfl, hb9, hB10, E11⟩
  have g13 : w.heap.size ≤ b8 := Nat.le_trans (Below.size (Ext.refl w)) hb9
  change Blk _ _ [(Fl r1), (Fl r3), (Fl r5)] at hB10
  have X14 := Ext.gr (Ext.refl w) E11
  show wpList _ _ _ _ (fr [(.agg #[(Fl r1), (Fl r3), (Fl r5)]), (Fl b), (Pt b8 0), Ud, Ud, Ud, Ud, Ud, Ud, Ud, Ud, Ud, Ud, Ud, Ud, Ud, Ud, Ud]) _
  refine seqd rfl rfl (does_alloc z53) ?_; rintro _ w19 ⟨b15, rfl, hb16, hB17, E18⟩
  have n20 : b8 < b15 := Nat.lt_of_lt_of_le (Blk.lt hB10) hb16
  have g21 : w.heap.size ≤ b15 := Nat.le_trans (Below.size X14) hb16
  change Blk _ _ [(Fl 0), (Fl 0), (Fl 0)] at hB17
  have X22 := Ext.gr X14 E18
  show wpList _ _ _ _ (fr [(.agg #[(Fl r1), (Fl r3), (Fl r5)]), (Fl b), (Pt b8 0), Ud, (Pt b15 0), Ud, Ud, Ud, Ud, Ud, Ud, Ud, Ud, Ud, Ud, Ud, Ud, Ud]) _
  refine wpList_nil (hK7 _ _ ?_)
  refine wp_seq_k fun K23 hK23 => ?_
  refine wp_region_lit ?_
  refine q_is (l' := [(.agg #[(Fl r1), (Fl r3), (Fl r5)]), (Fl b), (Pt b8 0), Ud, (Pt b15 0), (Pt b8 0), Ud, Ud, Ud, Ud, Ud, Ud, Ud, Ud, Ud, Ud, Ud, Ud]) rfl rfl (does_fieldAddr (ev rfl) fa53_0) rfl ?_
  refine q_is (l' := [(.agg #[(Fl r1), (Fl r3), (Fl r5)]), (Fl b), (Pt b8 0), Ud, (Pt b15 0), (Pt b8 0), (Fl r1), Ud, Ud, Ud, Ud, Ud, Ud, Ud, Ud, Ud, Ud, Ud]) rfl rfl (does_load (u := (Fl r1)) (ev rfl) Try.isAgg51 (Cells.at (Blk.cells (hB10.ext E18)) 0 rfl)) rfl ?_
  refine q_is (l' := [(.agg #[(Fl r1), (Fl r3), (Fl r5)]), (Fl b), (Pt b8 0), Ud, (Pt b15 0), (Pt b8 0), (Fl r1), (Fl b), Ud, Ud, Ud, Ud, Ud, Ud, Ud, Ud, Ud, Ud]) rfl rfl (does_move (u := (Fl b)) (ev rfl)) rfl ?_
  refine seqd rfl rfl (does_float (.inr (.inr (.inl rfl))) (ev rfl) (ev rfl)) ?_; rintro _ w27 ⟨r24, rfl, h25, E26⟩
  have X28 := Ext.gr X22 E26
  show wpList _ _ _ _ (fr [(.agg #[(Fl r1), (Fl r3), (Fl r5)]), (Fl b), (Pt b8 0), Ud, (Pt b15 0), (Pt b8 0), (Fl r1), (Fl b), (Fl r24), Ud, Ud, Ud, Ud, Ud, Ud, Ud, Ud, Ud]) _
  refine q_is (l' := [(.agg #[(Fl r1), (Fl r3), (Fl r5)]), (Fl b), (Pt b8 0), Ud, (Pt b15 0), (Pt b8 0), (Fl r1), (Fl b), (Fl r24), (Pt b8 1), Ud, Ud, Ud, Ud, Ud, Ud, Ud, Ud]) rfl rfl (does_fieldAddr (ev rfl) fa53_1) rfl ?_
  refine q_is (l' := [(.agg #[(Fl r1), (Fl r3), (Fl r5)]), (Fl b), (Pt b8 0), Ud, (Pt b15 0), (Pt b8 0), (Fl r1), (Fl b), (Fl r24), (Pt b8 1), (Fl r3), Ud, Ud, Ud, Ud, Ud, Ud, Ud]) rfl rfl (does_load (u := (Fl r3)) (ev rfl) Try.isAgg51 (Cells.at (Blk.cells ((hB10.ext E18).ext E26)) 1 rfl)) rfl ?_
  refine q_is (l' := [(.agg #[(Fl r1), (Fl r3), (Fl r5)]), (Fl b), (Pt b8 0), Ud, (Pt b15 0), (Pt b8 0), (Fl r1), (Fl b), (Fl r24), (Pt b8 1), (Fl r3), (Fl b), Ud, Ud, Ud, Ud, Ud, Ud]) rfl rfl (does_move (u := (Fl b)) (ev rfl)) rfl ?_
  refine seqd rfl rfl (does_float (.inr (.inr (.inl rfl))) (ev rfl) (ev rfl)) ?_; rintro _ w32 ⟨r29, rfl, h30, E31⟩
  have X33 := Ext.gr X28 E31
  show wpList _ _ _ _ (fr [(.agg #[(Fl r1), (Fl r3), (Fl r5)]), (Fl b), (Pt b8 0), Ud, (Pt b15 0), (Pt b8 0), (Fl r1), (Fl b), (Fl r24), (Pt b8 1), (Fl r3), (Fl b), (Fl r29), Ud, Ud, Ud, Ud, Ud]) _
  refine q_is (l' := [(.agg #[(Fl r1), (Fl r3), (Fl r5)]), (Fl b), (Pt b8 0), Ud, (Pt b15 0), (Pt b8 0), (Fl r1), (Fl b), (Fl r24), (Pt b8 1), (Fl r3), (Fl b), (Fl r29), (Pt b8 2), Ud, Ud, Ud, Ud]) rfl rfl (does_fieldAddr (ev rfl) fa53_2) rfl ?_
  refine q_is (l' := [(.agg #[(Fl r1), (Fl r3), (Fl r5)]), (Fl b), (Pt b8 0), Ud, (Pt b15 0), (Pt b8 0), (Fl r1), (Fl b), (Fl r24), (Pt b8 1), (Fl r3), (Fl b), (Fl r29), (Pt b8 2), (Fl r5), Ud, Ud, Ud]) rfl rfl (does_load (u := (Fl r5)) (ev rfl) Try.isAgg51 (Cells.at (Blk.cells (((hB10.ext E18).ext E26).ext E31)) 2 rfl)) rfl ?_
  refine q_is (l' := [(.agg #[(Fl r1), (Fl r3), (Fl r5)]), (Fl b), (Pt b8 0), Ud, (Pt b15 0), (Pt b8 0), (Fl r1), (Fl b), (Fl r24), (Pt b8 1), (Fl r3), (Fl b), (Fl r29), (Pt b8 2), (Fl r5), (Fl b), Ud, Ud]) rfl rfl (does_move (u := (Fl b)) (ev rfl)) rfl ?_
  refine seqd rfl rfl (does_float (.inr (.inr (.inl rfl))) (ev rfl) (ev rfl)) ?_; rintro _ w37 ⟨r34, rfl, h35, E36⟩
  have X38 := Ext.gr X33 E36
  show wpList _ _ _ _ (fr [(.agg #[(Fl r1), (Fl r3), (Fl r5)]), (Fl b), (Pt b8 0), Ud, (Pt b15 0), (Pt b8 0), (Fl r1), (Fl b), (Fl r24), (Pt b8 1), (Fl r3), (Fl b), (Fl r29), (Pt b8 2), (Fl r5), (Fl b), (Fl r34), Ud]) _
  refine q_is (l' := [(.agg #[(Fl r1), (Fl r3), (Fl r5)]), (Fl b), (Pt b8 0), Ud, (Pt b15 0), (Pt b8 0), (Fl r1), (Fl b), (Fl r24), (Pt b8 1), (Fl r3), (Fl b), (Fl r29), (Pt b8 2), (Fl r5), (Fl b), (Fl r34), (.agg #[(Fl r24), (Fl r29), (Fl r34)])]) rfl rfl (does_build (parts' := [(0, (Fl r24)), (1, (Fl r29)), (2, (Fl r34))]) (cells := #[(Fl r24), (Fl r29), (Fl r34)]) (evp rfl) (by kernel_rfl)) rfl ?_
  refine seqn rfl rfl (does_store (n := 3) (cs := [(Fl 0), (Fl 0), (Fl 0)]) (u := (.agg #[(Fl r24), (Fl r29), (Fl r34)])) (ev rfl) (ev rfl) Try.sizeOf53 rfl (((hB17.ext E26).ext E31).ext E36) (Nat.le_of_ble_eq_true rfl) rfl) ?_; rintro _ w41 ⟨rfl, W39, hB40⟩
  change Blk _ _ [(Fl r24), (Fl r29), (Fl r34)] at hB40
  have X42 := Below.wr X38 W39 g21
  refine wpList_nil (hK23 _ _ ?_)
  refine wp_ret ?_
  refine ret_val (v := (.agg #[(Fl r24), (Fl r29), (Fl r34)])) (res_C rfl (slot rfl) (run_loadAgg (cs := [(Fl r24), (Fl r29), (Fl r34)]) Try.isAgg53 Try.sizeOf53 (Blk.cells hB40) rfl)) X42 ?_
  have x43 : cf .f32 r24 = (vscale A_a (cf .f32 b)).x := by first | with_reducible rfl | (simp only [vscale, h2, h4, h6, h25, h30, h35]; done) | (simp [vscale, h2, h4, h6, h25, h30, h35]; done) | rfl
  have x44 : cf .f32 r29 = (vscale A_a (cf .f32 b)).y := by first | with_reducible rfl | (simp only [vscale, h2, h4, h6, h25, h30, h35]; done) | (simp [vscale, h2, h4, h6, h25, h30, h35]; done) | rfl
  have x45 : cf .f32 r34 = (vscale A_a (cf .f32 b)).z := by first | with_reducible rfl | (simp only [vscale, h2, h4, h6, h25, h30, h35]; done) | (simp [vscale, h2, h4, h6, h25, h30, h35]; done) | rfl
  exact ⟨[(Fl r24), (Fl r29), (Fl r34)], rfl, ⟨r24, r29, r34, rfl, x43, x44, x45⟩⟩

/- spec.l03Unit -/
theorem c_spec_l03Unit (v : List Value) (A_v : V3) (w : World) (hv_v : RV3 w A_v v) : Gives Try.prog 31 #[(.agg v.toArray)] w (fun v w' => ∃ cs_1 : List Value, v = (.agg cs_1.toArray) ∧ RV3 w (unitF A_v) cs_1) := by
  obtain ⟨r1, r3, r5, rfl, h2, h4, h6⟩ := hv_v
  refine enter [(.agg #[(Fl r1), (Fl r3), (Fl r5)]), Ud, Ud, Ud, Ud, Ud, Ud, Ud, Ud, Ud, Ud, Ud, Ud, Ud, Ud, Ud, Ud, Ud, Ud, Ud, Ud, Ud, Ud, Ud, Ud] Try.func31 rfl Try.ntmps31 rfl ?_
  refine wp_seq_k fun K7 hK7 => ?_
  refine wp_region_lit ?_
  refine seqd rfl rfl (does_box (u := (.agg #[(Fl r1), (Fl r3), (Fl r5)])) (ev rfl)) ?_; rintro _ w12 ⟨b8, rfl, hb9, hB10, E11⟩
  have g13 : w.heap.size ≤ b8 := Nat.le_trans (Below.size (Ext.refl w)) hb9
  change Blk _ _ [(Fl r1), (Fl r3), (Fl r5)] at hB10
  have X14 := Ext.gr (Ext.refl w) E11
  show wpList _ _ _ _ (fr [_, _, _, _, _, _, _, _, _, _, _, _, _, _, _, _, _, _, _, _, _, _, _, _, _]) _
  refine seqd rfl rfl (does_alloc z53) ?_; rintro _ w19 ⟨b15, rfl, hb16, hB17, E18⟩
  have n20 : b8 < b15 := Nat.lt_of_lt_of_le (Blk.lt hB10) hb16
  have g21 : w.heap.size ≤ b15 := Nat.le_trans (Below.size X14) hb16
  change Blk _ _ [(Fl 0), (Fl 0), (Fl 0)] at hB17
  have X22 := Ext.gr X14 E18
  show wpList _ _ _ _ (fr [_, _, _, _, _, _, _, _, _, _, _, _, _, _, _, _, _, _, _, _, _, _, _, _, _]) _
  refine wpList_nil (hK7 _ _ ?_)
  refine wp_seq_k fun K23 hK23 => ?_
  refine wp_region_lit ?_
  refine q_is rfl rfl (does_loadAgg (cs := [(Fl r1), (Fl r3), (Fl r5)]) (ev rfl) Try.isAgg53 Try.sizeOf53 (Blk.cells (hB10.ext E18)) rfl) (by dsimp only [List.set]; try rfl) ?_
  refine seqd rfl rfl (does_call (args := #[(.agg #[(Fl r1), (Fl r3), (Fl r5)])]) cal48 (evs rfl) (c_spec_l01Long [(Fl r1), (Fl r3), (Fl r5)] A_v _ ⟨r1, r3, r5, rfl, h2, h4, h6⟩)) ?_; rintro _ w25 ⟨E24, ⟨r26, rfl, h27⟩⟩
  have X28 := Ext.gr X22 E24
  show wpList _ _ _ _ (fr [_, _, _, _, _, _, _, _, _, _, _, _, _, _, _, _, _, _, _, _, _, _, _, _, _]) _
  refine q_is rfl rfl (does_assign (u := (Fl r26)) (ev rfl)) (by dsimp only [List.set]; try rfl) ?_
  refine wpList_nil (hK23 _ _ ?_)
  refine wp_seq_k fun K29 hK29 => ?_
  refine wp_region_lit ?_
  refine q_is rfl rfl (does_move (u := (Fl r26)) (ev rfl)) (by dsimp only [List.set]; try rfl) ?_
  refine seqd rfl rfl (does_float (.inr (.inr (.inr rfl))) (ev rfl) (ev rfl)) ?_; rintro _ w33 ⟨r30, rfl, h31, E32⟩
  have X34 := Ext.gr X28 E32
  show wpList _ _ _ _ (fr [_, _, _, _, _, _, _, _, _, _, _, _, _, _, _, _, _, _, _, _, _, _, _, _, _]) _
  refine q_is rfl rfl (does_assign (u := (Fl r30)) (ev rfl)) (by dsimp only [List.set]; try rfl) ?_
  refine wpList_nil (hK29 _ _ ?_)
  refine wp_seq_k fun K35 hK35 => ?_
  refine wp_seq_k fun K36 hK36 => ?_
  obtain ⟨β1, hβ1⟩ : ∃ b : Bool, b = (fcmp .eql (ford .f32 (cf .f32 r26) (cf .f32 0))) := ⟨_, rfl⟩
  obtain ⟨β2, hβ2⟩ : ∃ b : Bool, b = (β1 || (!(finF (cf .f32 r26)))) := ⟨_, rfl⟩
  obtain ⟨β3, hβ3⟩ : ∃ b : Bool, b = (β2 || (!(finF (cf .f32 r30)))) := ⟨_, rfl⟩
  refine region_text (
    [Fact.pure [] (fun v => v = (Fl r26)),
    Fact.pure [9] (fun v => v = (Bo β1)),
    Fact.pure [10] (fun v => v = (Bo β1)),
    Fact.pure [11] (fun v => β1 = false → v = (Fl r26)),
    Fact.pure [12, 11] (fun v => β1 = false → v = (Bo (finF (cf .f32 r26)))),
    Fact.pure [13, 11] (fun v => β1 = false → v = (Bo (!(finF (cf .f32 r26))))),
    Fact.pure [11, 14] (fun v => v = (Bo β2)),
    Fact.pure [15] (fun v => v = (Bo β2)),
    Fact.pure [16] (fun v => β2 = false → v = (Fl r30)),
    Fact.pure [17, 16] (fun v => β2 = false → v = (Bo (finF (cf .f32 r30)))),
    Fact.pure [18, 16] (fun v => β2 = false → v = (Bo (!(finF (cf .f32 r30))))),
    Fact.pure [16, 19] (fun v => v = (Bo β3))]) (by simp [Fact.pure, Fact.mem]) ?_
  refine RW_d _ rfl (fun v => by dsimp only [List.set]; try rfl) (fun u hu hF => ?_) (fun v37 => ?_)
  · clear hF
    refine doesG_un rfl ?_
    refine (does_move (u := (Fl r26)) (ev rfl)).mono ?_; rintro _ _ ⟨rfl, rfl⟩
    exact ⟨rfl, Ext.refl _⟩
  refine RW_d _ rfl (fun v => by dsimp only [List.set]; try rfl) (fun u hu hF => ?_) (fun v38 => ?_)
  · have h9_ : v37 = (Fl r26) := hF.1
    clear hF
    refine doesG_un rfl ?_
    obtain rfl := h9_
    refine (does_fcmp (.inl rfl) (ev rfl) (ev rfl)).mono ?_; rintro _ _ ⟨rfl, rfl⟩
    exact ⟨(by first | rfl | (show _ = _; simp only [hβ1]; done) | (show _ = _; simp only [hβ1]; rfl)), Ext.refl _⟩
  refine RW_d _ rfl (fun v => by dsimp only [List.set]; try rfl) (fun u hu hF => ?_) (fun v39 => ?_)
  · have h10_ : v38 = (Bo β1) := hF.1
    clear hF
    refine doesG_un rfl ?_
    obtain rfl := h10_
    refine (does_move (u := (Bo β1)) (ev rfl)).mono ?_; rintro _ _ ⟨rfl, rfl⟩
    exact ⟨rfl, Ext.refl _⟩
  refine RW_d _ rfl (fun v => by dsimp only [List.set]; try rfl) (fun u hu hF => ?_) (fun v40 => ?_)
  · have h11_ : v39 = (Bo β1) := hF.1
    clear hF
    obtain rfl := h11_
    refine doesG_g (b := β1) rfl (yld rfl rfl) (fun hg1 => ?_) (fun hc => ⟨fun hg1 => absurd hg1 hc, Ext.refl _⟩)
    refine (does_move (u := (Fl r26)) (ev rfl)).mono ?_; rintro _ _ ⟨rfl, rfl⟩
    exact ⟨fun _ => rfl, Ext.refl _⟩
  refine RW_d _ rfl (fun v => by dsimp only [List.set]; try rfl) (fun u hu hF => ?_) (fun v41 => ?_)
  · have h12_ : β1 = false → v40 = (Fl r26) := hF.1
    have h11_ : v39 = (Bo β1) := hF.2.1
    clear hF
    obtain rfl := h11_
    refine doesG_g (b := β1) rfl (yld rfl rfl) (fun hg1 => ?_) (fun hc => ⟨fun hg1 => absurd hg1 hc, Ext.refl _⟩)
    obtain rfl := h12_ hg1
    refine (does_call (args := #[(Fl r26)]) cal49 (evs rfl) (c_spec_l01Finite r26 _)).mono ?_; rintro v u' ⟨hx, hv⟩
    exact ⟨fun _ => hv, hx⟩
  refine RW_d _ rfl (fun v => by dsimp only [List.set]; try rfl) (fun u hu hF => ?_) (fun v42 => ?_)
  · have h13_ : β1 = false → v41 = (Bo (finF (cf .f32 r26))) := hF.1
    have h11_ : v39 = (Bo β1) := hF.2.1
    clear hF
    obtain rfl := h11_
    refine doesG_g (b := β1) rfl (yld rfl rfl) (fun hg1 => ?_) (fun hc => ⟨fun hg1 => absurd hg1 hc, Ext.refl _⟩)
    obtain rfl := h13_ hg1
    refine (does_not (ev rfl)).mono ?_; rintro _ _ ⟨rfl, rfl⟩
    exact ⟨fun _ => rfl, Ext.refl _⟩
  refine RW_d _ rfl (fun v => by dsimp only [List.set]; try rfl) (fun u hu hF => ?_) (fun v43 => ?_)
  · have h11_ : v39 = (Bo β1) := hF.1
    have h14_ : β1 = false → v42 = (Bo (!(finF (cf .f32 r26)))) := hF.2.1
    clear hF
    refine doesG_un rfl ?_
    skip
    obtain rfl := h11_
    refine (does_pick (b := β1) (u := (Bo true)) (v := v42) (ev rfl) (ev rfl) (ev rfl)).mono ?_; rintro _ _ ⟨rfl, rfl⟩; refine ⟨?_, Ext.refl _⟩; rw [hβ2]; skip
    cases hbb : β1
    all_goals first | (show _ = _; simp only [↓reduceIte, Bool.true_and, Bool.false_and, Bool.true_or, Bool.false_or, Bool.false_eq_true]; done) | (have e_ := h14_ hbb; subst e_; show _ = _; simp only [↓reduceIte, Bool.true_and, Bool.false_and, Bool.true_or, Bool.false_or, Bool.false_eq_true]; done) | rfl | (have e_ := h14_ hbb; subst e_; rfl) | (simp [hbb] at h14_ ⊢; first | done | rfl | (subst h14_; rfl) | simp_all) | (simp [hbb] at h14_ ⊢; done)
  refine RW_d _ rfl (fun v => by dsimp only [List.set]; try rfl) (fun u hu hF => ?_) (fun v44 => ?_)
  · have h15_ : v43 = (Bo β2) := hF.1
    clear hF
    refine doesG_un rfl ?_
    obtain rfl := h15_
    refine (does_move (u := (Bo β2)) (ev rfl)).mono ?_; rintro _ _ ⟨rfl, rfl⟩
    exact ⟨rfl, Ext.refl _⟩
  refine RW_d _ rfl (fun v => by dsimp only [List.set]; try rfl) (fun u hu hF => ?_) (fun v45 => ?_)
  · have h16_ : v44 = (Bo β2) := hF.1
    clear hF
    obtain rfl := h16_
    refine doesG_g (b := β2) rfl (yld rfl rfl) (fun hg1 => ?_) (fun hc => ⟨fun hg1 => absurd hg1 hc, Ext.refl _⟩)
    refine (does_move (u := (Fl r30)) (ev rfl)).mono ?_; rintro _ _ ⟨rfl, rfl⟩
    exact ⟨fun _ => rfl, Ext.refl _⟩
  refine RW_d _ rfl (fun v => by dsimp only [List.set]; try rfl) (fun u hu hF => ?_) (fun v46 => ?_)
  · have h17_ : β2 = false → v45 = (Fl r30) := hF.1
    have h16_ : v44 = (Bo β2) := hF.2.1
    clear hF
    obtain rfl := h16_
    refine doesG_g (b := β2) rfl (yld rfl rfl) (fun hg1 => ?_) (fun hc => ⟨fun hg1 => absurd hg1 hc, Ext.refl _⟩)
    obtain rfl := h17_ hg1
    refine (does_call (args := #[(Fl r30)]) cal49 (evs rfl) (c_spec_l01Finite r30 _)).mono ?_; rintro v u' ⟨hx, hv⟩
    exact ⟨fun _ => hv, hx⟩
  refine RW_d _ rfl (fun v => by dsimp only [List.set]; try rfl) (fun u hu hF => ?_) (fun v47 => ?_)
  · have h18_ : β2 = false → v46 = (Bo (finF (cf .f32 r30))) := hF.1
    have h16_ : v44 = (Bo β2) := hF.2.1
    clear hF
    obtain rfl := h16_
    refine doesG_g (b := β2) rfl (yld rfl rfl) (fun hg1 => ?_) (fun hc => ⟨fun hg1 => absurd hg1 hc, Ext.refl _⟩)
    obtain rfl := h18_ hg1
    refine (does_not (ev rfl)).mono ?_; rintro _ _ ⟨rfl, rfl⟩
    exact ⟨fun _ => rfl, Ext.refl _⟩
  refine RW_d _ rfl (fun v => by dsimp only [List.set]; try rfl) (fun u hu hF => ?_) (fun v48 => ?_)
  · have h16_ : v44 = (Bo β2) := hF.1
    have h19_ : β2 = false → v47 = (Bo (!(finF (cf .f32 r30)))) := hF.2.1
    clear hF
    refine doesG_un rfl ?_
    skip
    obtain rfl := h16_
    refine (does_pick (b := β2) (u := (Bo true)) (v := v47) (ev rfl) (ev rfl) (ev rfl)).mono ?_; rintro _ _ ⟨rfl, rfl⟩; refine ⟨?_, Ext.refl _⟩; rw [hβ3]; skip
    cases hbb : β2
    all_goals first | (show _ = _; simp only [↓reduceIte, Bool.true_and, Bool.false_and, Bool.true_or, Bool.false_or, Bool.false_eq_true]; done) | (have e_ := h19_ hbb; subst e_; show _ = _; simp only [↓reduceIte, Bool.true_and, Bool.false_and, Bool.true_or, Bool.false_or, Bool.false_eq_true]; done) | rfl | (have e_ := h19_ hbb; subst e_; rfl) | (simp [hbb] at h19_ ⊢; first | done | rfl | (subst h19_; rfl) | simp_all) | (simp [hbb] at h19_ ⊢; done)
  refine RW_fin ?_; intro w49 E50 hP51
  obtain ⟨⟨⟨⟨⟨⟨⟨⟨⟨⟨⟨⟨-, -⟩, -⟩, -⟩, -⟩, -⟩, -⟩, -⟩, -⟩, -⟩, -⟩, -⟩, q52⟩ := hP51
  have X53 := Ext.gr X34 E50
  have q52 : v48 = (Bo β3) := q52
  obtain rfl := q52
  show wpList _ _ _ _ (fr [_, _, _, _, _, _, _, _, _, _, _, _, _, _, _, _, _, _, _, _, _, _, _, _, _]) _
  refine wpList_nil (hK36 _ _ ?_)
  refine wp_cond_split (t := β3) (ev rfl) (fun c54 => ?_) (fun c54 => ?_)
  · have c54' := c54
    (try simp only [hβ1, hβ2, hβ3, any2_finF] at c54')
    (try simp only [hβ1, hβ2, hβ3] at c54')
    (try simp only [icmp, Bool.and_eq_true, Bool.or_eq_true, Bool.and_eq_false_iff, Bool.or_eq_false_iff, Bool.not_eq_true', Bool.not_eq_false', decide_eq_true_eq, decide_eq_false_iff_not, beq_iff_eq, bne_iff_ne, beq_eq_false_iff_ne, bne_eq_false_iff_eq] at c54')
    refine wp_seq_k fun K55 hK55 => ?_
    refine wp_region_lit ?_
    refine q_is rfl rfl (does_build (parts' := []) (cells := #[(Fl 0), (Fl 0), (Fl 0)]) (evp rfl) (by kernel_rfl)) (by dsimp only [List.set]; try rfl) ?_
    refine seqn rfl rfl (does_store (n := 3) (cs := [(Fl 0), (Fl 0), (Fl 0)]) (u := (.agg #[(Fl 0), (Fl 0), (Fl 0)])) (ev rfl) (ev rfl) Try.sizeOf53 rfl (((hB17.ext E24).ext E32).ext E50) (Nat.le_of_ble_eq_true rfl) rfl) ?_; rintro _ w58 ⟨rfl, W56, hB57⟩
    change Blk _ _ [(Fl 0), (Fl 0), (Fl 0)] at hB57
    have X59 := Below.wr X53 W56 g21
    refine wpList_nil (hK55 _ _ ?_)
    refine wp_ret ?_
    dsimp only [Exit.then, Exit.inBlock]
    refine ret_val (v := (.agg #[(Fl 0), (Fl 0), (Fl 0)])) (res_C rfl (slot rfl) (run_loadAgg (cs := [(Fl 0), (Fl 0), (Fl 0)]) Try.isAgg53 Try.sizeOf53 (Blk.cells hB57) rfl)) X59 ?_
    try simp only [h2, h4, h6, h27, h31, hβ1, hβ2, hβ3, any2_finF] at c54
    have x60 : cf .f32 0 = (unitF A_v).x := by first | (rw [unit_zero1 (by assumption)]; rfl) | (rw [unit_zero2 (by assumption)]; rfl) | (rw [unit_by1 (by assumption)]; simp only [vscale, h2, h4, h6, h27, h31, hβ1, hβ2, hβ3, c54]; done) | (rw [unit_by2 (by assumption)]; simp only [vscale, h2, h4, h6, h27, h31, hβ1, hβ2, hβ3, c54]; done)
    have x61 : cf .f32 0 = (unitF A_v).y := by first | (rw [unit_zero1 (by assumption)]; rfl) | (rw [unit_zero2 (by assumption)]; rfl) | (rw [unit_by1 (by assumption)]; simp only [vscale, h2, h4, h6, h27, h31, hβ1, hβ2, hβ3, c54]; done) | (rw [unit_by2 (by assumption)]; simp only [vscale, h2, h4, h6, h27, h31, hβ1, hβ2, hβ3, c54]; done)
    have x62 : cf .f32 0 = (unitF A_v).z := by first | (rw [unit_zero1 (by assumption)]; rfl) | (rw [unit_zero2 (by assumption)]; rfl) | (rw [unit_by1 (by assumption)]; simp only [vscale, h2, h4, h6, h27, h31, hβ1, hβ2, hβ3, c54]; done) | (rw [unit_by2 (by assumption)]; simp only [vscale, h2, h4, h6, h27, h31, hβ1, hβ2, hβ3, c54]; done)
    exact ⟨[(Fl 0), (Fl 0), (Fl 0)], rfl, ⟨0, 0, 0, rfl, x60, x61, x62⟩⟩
  have c54' := c54
  (try simp only [hβ1, hβ2, hβ3, any2_finF] at c54')
  (try simp only [hβ1, hβ2, hβ3] at c54')
  (try simp only [icmp, Bool.and_eq_true, Bool.or_eq_true, Bool.and_eq_false_iff, Bool.or_eq_false_iff, Bool.not_eq_true', Bool.not_eq_false', decide_eq_true_eq, decide_eq_false_iff_not, beq_iff_eq, bne_iff_ne, beq_eq_false_iff_ne, bne_eq_false_iff_eq] at c54')
  refine wp_skip (hK35 _ _ ?_)
  refine wp_seq_k fun K63 hK63 => ?_
  refine wp_region_lit ?_
  refine q_is rfl rfl (does_loadAgg (cs := [(Fl r1), (Fl r3), (Fl r5)]) (ev rfl) Try.isAgg53 Try.sizeOf53 (Blk.cells ((((hB10.ext E18).ext E24).ext E32).ext E50)) rfl) (by dsimp only [List.set]; try rfl) ?_
  refine q_is rfl rfl (does_move (u := (Fl r30)) (ev rfl)) (by dsimp only [List.set]; try rfl) ?_
  refine seqd rfl rfl (does_call (args := #[(.agg #[(Fl r1), (Fl r3), (Fl r5)]), (Fl r30)]) cal50 (evs rfl) (c_spec_l01Scale [(Fl r1), (Fl r3), (Fl r5)] A_v r30 _ ⟨r1, r3, r5, rfl, h2, h4, h6⟩)) ?_; rintro _ w65 ⟨E64, ⟨_, rfl, ⟨r66, r68, r70, rfl, h67, h69, h71⟩⟩⟩
  have X72 := Ext.gr X53 E64
  show wpList _ _ _ _ (fr [_, _, _, _, _, _, _, _, _, _, _, _, _, _, _, _, _, _, _, _, _, _, _, _, _]) _
  refine seqn rfl rfl (does_store (n := 3) (cs := [(Fl 0), (Fl 0), (Fl 0)]) (u := (.agg #[(Fl r66), (Fl r68), (Fl r70)])) (ev rfl) (ev rfl) Try.sizeOf53 rfl ((((hB17.ext E24).ext E32).ext E50).ext E64) (Nat.le_of_ble_eq_true rfl) rfl) ?_; rintro _ w75 ⟨rfl, W73, hB74⟩
  change Blk _ _ [(Fl r66), (Fl r68), (Fl r70)] at hB74
  have X76 := Below.wr X72 W73 g21
  refine wpList_nil (hK63 _ _ ?_)
  refine wp_ret ?_
  refine ret_val (v := (.agg #[(Fl r66), (Fl r68), (Fl r70)])) (res_C rfl (slot rfl) (run_loadAgg (cs := [(Fl r66), (Fl r68), (Fl r70)]) Try.isAgg53 Try.sizeOf53 (Blk.cells hB74) rfl)) X76 ?_
  try simp only [h2, h4, h6, h27, h31, hβ1, hβ2, hβ3, h67, h69, h71, any2_finF] at c54
  have x77 : cf .f32 r66 = (unitF A_v).x := by first | (rw [unit_zero1 (by assumption)]; rfl) | (rw [unit_zero2 (by assumption)]; rfl) | (rw [unit_by1 (by assumption)]; simp only [vscale, h2, h4, h6, h27, h31, hβ1, hβ2, hβ3, h67, h69, h71, c54]; done) | (rw [unit_by2 (by assumption)]; simp only [vscale, h2, h4, h6, h27, h31, hβ1, hβ2, hβ3, h67, h69, h71, c54]; done)
  have x78 : cf .f32 r68 = (unitF A_v).y := by first | (rw [unit_zero1 (by assumption)]; rfl) | (rw [unit_zero2 (by assumption)]; rfl) | (rw [unit_by1 (by assumption)]; simp only [vscale, h2, h4, h6, h27, h31, hβ1, hβ2, hβ3, h67, h69, h71, c54]; done) | (rw [unit_by2 (by assumption)]; simp only [vscale, h2, h4, h6, h27, h31, hβ1, hβ2, hβ3, h67, h69, h71, c54]; done)
  have x79 : cf .f32 r70 = (unitF A_v).z := by first | (rw [unit_zero1 (by assumption)]; rfl) | (rw [unit_zero2 (by assumption)]; rfl) | (rw [unit_by1 (by assumption)]; simp only [vscale, h2, h4, h6, h27, h31, hβ1, hβ2, hβ3, h67, h69, h71, c54]; done) | (rw [unit_by2 (by assumption)]; simp only [vscale, h2, h4, h6, h27, h31, hβ1, hβ2, hβ3, h67, h69, h71, c54]; done)
  exact ⟨[(Fl r66), (Fl r68), (Fl r70)], rfl, ⟨r66, r68, r70, rfl, x77, x78, x79⟩⟩

/- spec.NormalsOf -/
theorem c_spec_NormalsOf (m : List Value) (A_m : MeshT) (w : World) (hv_m : RMeshT w A_m m) : Gives Try.prog 12 #[(.agg m.toArray)] w (fun v w' => ∃ y_1 : Value, v = (.tuple #[y_1, (Bo (meshOk A_m))]) ∧ Hang w.heap.size w' (fun u => Sl RV3 3 u y_1 (nrmL A_m))) := by
  obtain ⟨y1, y3, rfl, h2, h4⟩ := hv_m
  have hs7 := h2; have hs7l := Sl.len h2; obtain ⟨p5, q6, rfl⟩ := Sl.shape h2
  have hs10 := h4; have hs10l := Sl.len h4; obtain ⟨p8, q9, rfl⟩ := Sl.shape h4
  refine enter [(.agg #[(.slice p5 A_m.places.length q6), (.slice p8 A_m.tris.length q9)]), Ud, Ud, Ud, Ud, Ud, Ud, Ud, Ud, Ud, Ud, Ud, Ud, Ud, Ud, Ud, Ud, Ud, Ud, Ud, Ud, Ud, Ud, Ud, Ud, Ud, Ud, Ud, Ud, Ud, Ud, Ud, Ud, Ud, Ud, Ud, Ud, Ud, Ud, Ud, Ud, Ud, Ud, Ud, Ud, Ud, Ud, Ud, Ud, Ud, Ud, Ud, Ud, Ud, Ud, Ud, Ud, Ud, Ud, Ud, Ud, Ud, Ud, Ud, Ud, Ud, Ud, Ud, Ud, Ud, Ud, Ud, Ud, Ud, Ud, Ud, Ud, Ud, Ud, Ud, Ud, Ud, Ud, Ud, Ud, Ud, Ud, Ud, Ud, Ud, Ud] Try.func12 rfl Try.ntmps12 rfl ?_
  refine wp_seq_k fun K11 hK11 => ?_
  refine wp_region_lit ?_
  refine seqd rfl rfl (does_box (u := (.agg #[(.slice p5 A_m.places.length q6), (.slice p8 A_m.tris.length q9)])) (ev rfl)) ?_; rintro _ w16 ⟨b12, rfl, hb13, hB14, E15⟩
  have g17 : w.heap.size ≤ b12 := Nat.le_trans (Below.size (Ext.refl w)) hb13
  change Blk _ _ [(.slice p5 A_m.places.length q6), (.slice p8 A_m.tris.length q9)] at hB14
  have X18 := Ext.gr (Ext.refl w) E15
  show wpList _ _ _ _ (fr [_, _, _, _, _, _, _, _, _, _, _, _, _, _, _, _, _, _, _, _, _, _, _, _, _, _, _, _, _, _, _, _, _, _, _, _, _, _, _, _, _, _, _, _, _, _, _, _, _, _, _, _, _, _, _, _, _, _, _, _, _, _, _, _, _, _, _, _, _, _, _, _, _, _, _, _, _, _, _, _, _, _, _, _, _, _, _, _, _, _, _]) _
  refine q_is rfl rfl (does_assign (u := (.slice none 0 0)) (ev rfl)) (by dsimp only [List.set]; try rfl) ?_
  refine q_is rfl rfl (does_assign (u := (Bo false)) (ev rfl)) (by dsimp only [List.set]; try rfl) ?_
  refine wpList_nil (hK11 _ _ ?_)
  refine wp_seq_k fun K19 hK19 => ?_
  refine wp_seq_k fun K20 hK20 => ?_
  refine wp_region_lit ?_
  refine seqd rfl rfl (does_call (args := #[(Pt b12 0)]) cal19 (evs rfl) (c_spec_l07Is b12 0 [(.slice p5 A_m.places.length q6), (.slice p8 A_m.tris.length q9)] A_m _ (Blk.cells hB14) ⟨(.slice p5 A_m.places.length q6), (.slice p8 A_m.tris.length q9), rfl, (Sl.ext hs7 RV3.mono X18), (Sl.ext hs10 (RS.mono RI.mono) X18)⟩)) ?_; rintro _ w22 ⟨E21, rfl⟩
  have X23 := Ext.gr X18 E21
  show wpList _ _ _ _ (fr [_, _, _, _, _, _, _, _, _, _, _, _, _, _, _, _, _, _, _, _, _, _, _, _, _, _, _, _, _, _, _, _, _, _, _, _, _, _, _, _, _, _, _, _, _, _, _, _, _, _, _, _, _, _, _, _, _, _, _, _, _, _, _, _, _, _, _, _, _, _, _, _, _, _, _, _, _, _, _, _, _, _, _, _, _, _, _, _, _, _, _]) _
  refine q_is rfl rfl (does_not (ev rfl)) (by dsimp only [List.set]; try rfl) ?_
  refine wpList_nil (hK20 _ _ ?_)
  refine wp_cond_split (t := !(meshOk A_m)) (ev rfl) (fun c24 => ?_) (fun c24 => ?_)
  · rw [Bool.not_eq_true'] at c24
    have c24' := c24
    have hmf : meshOk A_m = false := c24
    refine wp_seq_k fun K25 hK25 => ?_
    refine wp_region_lit ?_
    refine q_is rfl rfl (does_assign (u := (.slice none 0 0)) (ev rfl)) (by dsimp only [List.set]; try rfl) ?_
    refine q_is rfl rfl (does_assign (u := (Bo false)) (ev rfl)) (by dsimp only [List.set]; try rfl) ?_
    refine wpList_nil (hK25 _ _ ?_)
    refine wp_ret ?_
    dsimp only [Exit.then, Exit.inBlock]
    refine ret_val (v := (.tuple #[(.slice none 0 0), (Bo false)])) (res_TT rfl (slot rfl) (slot rfl)) X23 ?_
    have x26 : (meshOk A_m) = false := by first | exact hmf | exact hmt | (rw [nrmL_f hmf] <;> rfl) | (rw [nrmL_t hmt hk (by omega) hj (by omega)] <;> first | rfl | assumption)
    have x27 : ([]) = (nrmL A_m) := by first | exact hmf | exact hmt | (rw [nrmL_f hmf] <;> rfl) | (rw [nrmL_t hmt hk (by omega) hj (by omega)] <;> first | rfl | assumption)
    exact ⟨(.slice none 0 0), (by first | with_reducible rfl | rw [x26] | rfl), (Hang.castL (Sl.hang_nil _ _ _ _) x27)⟩
  rw [Bool.not_eq_false'] at c24
  have c24' := c24
  have hmt : meshOk A_m = true := c24
  have hml := mesh_len hmt
  refine wp_skip (hK19 _ _ ?_)
  refine wp_seq_k fun K28 hK28 => ?_
  refine wp_region_lit ?_
  refine q_is rfl rfl (does_fieldAddr (ev rfl) fa29_0) (by dsimp only [List.set]; try rfl) ?_
  refine q_is rfl rfl (does_load (u := (.slice p5 A_m.places.length q6)) (ev rfl) Try.isAgg27 (Cells.at (Blk.cells (hB14.ext E21)) 0 rfl)) (by dsimp only [List.set]; try rfl) ?_
  refine q_is rfl rfl (does_len_slice Try.underlying27 (ev rfl)) (by dsimp only [List.set]; try rfl) ?_
  refine seqd rfl rfl (does_makeSlice (n := A_m.places.length) Try.underlying27 inf53 (ev rfl) (ev rfl) (by omega)) ?_; rintro _ w33 ⟨b29, rfl, hb30, ⟨cs34, hB31, hl35, hz36⟩, E32⟩
  have n37 : b12 < b29 := Nat.lt_of_lt_of_le (Blk.lt (hB14.ext E21)) hb30
  have g38 : w.heap.size ≤ b29 := Nat.le_trans (Below.size X23) hb30
  have X39 := Ext.gr X23 E32
  have hR40 : RowG RV3 3 w33 b29 (List.replicate A_m.places.length zV) := RowG.made (z := (.agg #[.float .f32 0, .float .f32 0, .float .f32 0])) hB31 rfl rfl hz36 ⟨_, _, _, rfl, rfl, rfl, rfl⟩
  show wpList _ _ _ _ (fr [_, _, _, _, _, _, _, _, _, _, _, _, _, _, _, _, _, _, _, _, _, _, _, _, _, _, _, _, _, _, _, _, _, _, _, _, _, _, _, _, _, _, _, _, _, _, _, _, _, _, _, _, _, _, _, _, _, _, _, _, _, _, _, _, _, _, _, _, _, _, _, _, _, _, _, _, _, _, _, _, _, _, _, _, _, _, _, _, _, _, _]) _
  refine q_is rfl rfl (does_assign (u := (.slice (some ⟨b29, 0, none⟩) A_m.places.length A_m.places.length)) (ev rfl)) (by dsimp only [List.set]; try rfl) ?_
  refine wpList_nil (hK28 _ _ ?_)
  refine wp_seq_k fun K41 hK41 => ?_
  refine wp_seq_k fun K42 hK42 => ?_
  refine wp_region_lit ?_
  refine q_is rfl rfl (does_fieldAddr (ev rfl) fa29_1) (by dsimp only [List.set]; try rfl) ?_
  refine q_is rfl rfl (does_load (u := (.slice p8 A_m.tris.length q9)) (ev rfl) Try.isAgg23 (Cells.at (Blk.cells ((hB14.ext E21).ext E32)) 1 rfl)) (by dsimp only [List.set]; try rfl) ?_
  refine q_is rfl rfl (does_len_slice Try.underlying23 (ev rfl)) (by dsimp only [List.set]; try rfl) ?_
  refine q_is rfl rfl (does_move (u := (Iv 0)) (ev rfl)) (by dsimp only [List.set]; try rfl) ?_
  refine wpList_nil (hK42 _ _ ?_)
  refine wp_block ?_
  refine loop_ghost (σ := Nat) (fun k a w' => ∃ u43 : Nat → Value, a = fr [(.agg #[(.slice p5 A_m.places.length q6), (.slice p8 A_m.tris.length q9)]), (Pt b12 0), (.slice none 0 0), (Bo false), (.slice (some ⟨b29, 0, none⟩) A_m.places.length A_m.places.length), (u43 5), (u43 6), (u43 7), (u43 8), (u43 9), Ud, (Bo (meshOk A_m)), (Bo (!(meshOk A_m))), (Pt b12 0), (.slice p5 A_m.places.length q6), (Iv (A_m.places.length : Int)), (.slice (some ⟨b29, 0, none⟩) A_m.places.length A_m.places.length), (Pt b12 1), (.slice p8 A_m.tris.length q9), (Iv (A_m.tris.length : Int)), (Iv (k : Int)), (u43 21), (u43 22), (u43 23), (u43 24), (u43 25), (u43 26), (u43 27), (u43 28), (u43 29), (u43 30), (u43 31), (u43 32), (u43 33), (u43 34), (u43 35), (u43 36), (u43 37), (u43 38), (u43 39), (u43 40), (u43 41), (u43 42), (u43 43), (u43 44), (u43 45), (u43 46), (u43 47), (u43 48), (u43 49), (u43 50), (u43 51), (u43 52), (u43 53), (u43 54), (u43 55), (u43 56), (u43 57), (u43 58), (u43 59), (u43 60), (u43 61), (u43 62), (u43 63), (u43 64), (u43 65), (u43 66), (u43 67), (u43 68), (u43 69), (u43 70), (u43 71), (u43 72), (u43 73), (u43 74), (u43 75), Ud, Ud, Ud, Ud, Ud, Ud, Ud, Ud, Ud, Ud, Ud, Ud, Ud, Ud, Ud] ∧ KpL [b29] w33 w' ∧ RowG RV3 3 w' b29 (nrmTo A_m k) ∧ (k ≤ A_m.tris.length)) (fun k => A_m.tris.length - k) 0 ?_ ?_
  · refine ⟨fun t => (([(.agg #[(.slice p5 A_m.places.length q6), (.slice p8 A_m.tris.length q9)]), (Pt b12 0), (.slice none 0 0), (Bo false), (.slice (some ⟨b29, 0, none⟩) A_m.places.length A_m.places.length), Ud, Ud, Ud, Ud, Ud, Ud, (Bo (meshOk A_m)), (Bo (!(meshOk A_m))), (Pt b12 0), (.slice p5 A_m.places.length q6), (Iv (A_m.places.length : Int)), (.slice (some ⟨b29, 0, none⟩) A_m.places.length A_m.places.length), (Pt b12 1), (.slice p8 A_m.tris.length q9), (Iv (A_m.tris.length : Int)), (Iv 0), Ud, Ud, Ud, Ud, Ud, Ud, Ud, Ud, Ud, Ud, Ud, Ud, Ud, Ud, Ud, Ud, Ud, Ud, Ud, Ud, Ud, Ud, Ud, Ud, Ud, Ud, Ud, Ud, Ud, Ud, Ud, Ud, Ud, Ud, Ud, Ud, Ud, Ud, Ud, Ud, Ud, Ud, Ud, Ud, Ud, Ud, Ud, Ud, Ud, Ud, Ud, Ud, Ud, Ud, Ud, Ud, Ud, Ud, Ud, Ud, Ud, Ud, Ud, Ud, Ud, Ud, Ud, Ud, Ud, Ud] : List Value)[t]?).getD undef, rfl, KpL.refl _ _, (RowG.cast hR40 (by (try dsimp only); rfl)), ?_⟩
    exact Nat.zero_le _
  · rintro k a w44 ⟨u43, rfl, E45, hRg0, hk⟩
    have X47 := Below.kl X39 E45 (allS g38 all0) (Nat.le_refl _)
    have hR48 := hRg0; clear hRg0
    refine wp_seq_k fun K49 hK49 => ?_
    refine wp_region_lit ?_
    refine q_is rfl rfl (does_icmp (p := (k : Int)) (q := (A_m.tris.length : Int)) (.inr (.inr (.inl rfl))) (ev rfl) (ev rfl)) (by dsimp only [List.set]; try rfl) ?_
    refine wpList_nil (hK49 _ _ ?_)
    refine wp_seq_k fun K50 hK50 => ?_
    refine wp_cond_split (t := icmp .lss (k : Int) (A_m.tris.length : Int)) (ev rfl) (fun c51 => ?_) (fun c51 => ?_)
    · have c51' := c51
      (try simp only [icmp, Bool.and_eq_true, Bool.or_eq_true, Bool.and_eq_false_iff, Bool.or_eq_false_iff, Bool.not_eq_true', Bool.not_eq_false', decide_eq_true_eq, decide_eq_false_iff_not, beq_iff_eq, bne_iff_ne, beq_eq_false_iff_ne, bne_eq_false_iff_eq] at c51')
      refine wp_skip (hK50 _ _ ?_)
      refine wp_seq_k fun K52 hK52 => ?_
      refine wp_block ?_
      refine wp_seq_k fun K53 hK53 => ?_
      refine wp_region_lit ?_
      refine q_is rfl rfl (does_move (u := (Iv (k : Int))) (ev rfl)) (by dsimp only [List.set]; try rfl) ?_
      refine q_is rfl rfl (does_assign (u := (Iv (k : Int))) (ev rfl)) (by dsimp only [List.set]; try rfl) ?_
      refine wpList_nil (hK53 _ _ ?_)
      refine wp_seq_k fun K54 hK54 => ?_
      refine wp_region_lit ?_
      refine q_is rfl rfl (does_fieldAddr (ev rfl) fa29_1) (by dsimp only [List.set]; try rfl) ?_
      refine q_is rfl rfl (does_load (u := (.slice p8 A_m.tris.length q9)) (ev rfl) Try.isAgg23 (Cells.at (Blk.cells (((hB14.ext E21).ext E32).kl E45 (ninS (Nat.ne_of_lt n37) nin0))) 1 rfl)) (by dsimp only [List.set]; try rfl) ?_
      refine q_is rfl rfl (does_move (u := (Iv (k : Int))) (ev rfl)) (by dsimp only [List.set]; try rfl) ?_
      obtain ⟨el1, hel1⟩ : ∃ e, A_m.tris[k]? = some e := ⟨_, List.getElem?_eq_getElem (by omega)⟩
      refine seqd rfl rfl (does_indexSl0 (R := (RS RI 1)) (i := (k : Int)) (xs := A_m.tris) (e := el1) Try.underlying23 Try.sizeOf44 (ev rfl) (ev rfl) hs10 (by omega) hel1) ?_; rintro _ w44 ⟨b55, o56, _, rfl, hc58, ⟨y59, rfl, h60⟩, rfl⟩
      have hs63 := h60; have hs63l := Sl.len h60; obtain ⟨p61, q62, rfl⟩ := Sl.shape h60
      show wpList _ _ _ _ (fr [_, _, _, _, _, _, _, _, _, _, _, _, _, _, _, _, _, _, _, _, _, _, _, _, _, _, _, _, _, _, _, _, _, _, _, _, _, _, _, _, _, _, _, _, _, _, _, _, _, _, _, _, _, _, _, _, _, _, _, _, _, _, _, _, _, _, _, _, _, _, _, _, _, _, _, _, _, _, _, _, _, _, _, _, _, _, _, _, _, _, _]) _
      refine q_is rfl rfl (does_load (u := (.slice p61 el1.length q62)) (ev rfl) Try.isAgg44 (Cells.at (hc58.ext X47) 0 rfl)) (by dsimp only [List.set]; try rfl) ?_
      refine q_is rfl rfl (does_assign (u := (.slice p61 el1.length q62)) (ev rfl)) (by dsimp only [List.set]; try rfl) ?_
      refine wpList_nil (hK54 _ _ ?_)
      refine wp_seq_k fun K64 hK64 => ?_
      have htr := mesh_tri hmt hel1
      obtain ⟨el2, hel2⟩ : ∃ e, el1[0]? = some e := ⟨_, List.getElem?_eq_getElem (by omega)⟩
      have hb2 := htr.2 _ (List.mem_of_getElem? hel2)
      obtain ⟨el3, hel3⟩ : ∃ e, A_m.places[el2.toNat]? = some e := ⟨_, List.getElem?_eq_getElem (by omega)⟩
      refine region_draw (
        [Fact.pure [] (fun v => v = (Pt b12 0)),
    Fact.pure [28] (fun v => v = (.slice p5 A_m.places.length q6)),
    Fact.pure [] (fun v => v = (.slice p61 el1.length q62)),
    Fact.mem [30] (fun v w' => PtrR RI w' v el2) (by intro v w1 w2 hx h; exact h.ext RI.mono hx),
    Fact.pure [31] (fun v => v = (Iv el2)),
    Fact.mem [29, 32] (fun v w' => PtrR RV3 w' v el3) (by intro v w1 w2 hx h; exact h.ext RV3.mono hx),
    Fact.pure [33] (fun v => ∃ cs_1 : List Value, v = (.agg cs_1.toArray) ∧ RV3 w el3 cs_1),
    Fact.mem [] (fun v w' => ∃ b : Nat, v = .pointer (some ⟨b, 0, none⟩) ∧ w44.heap.size ≤ b ∧ Blk w' b [(Fl 0), (Fl 0), (Fl 0)]) (by rintro v w1 w2 hx ⟨b, rfl, hb, hB⟩; exact ⟨b, rfl, hb, (hB.ext hx)⟩)]) mixed (by kernel_rfl) (by intro _ _ d _ _ h; cases d <;> exact h) ?_
      obtain ⟨w65, hw67⟩ : ∃ w', w' = World.drew w44 := ⟨_, rfl⟩; rw [← hw67]; have E66 : Ext w44 w65 := by rw [hw67]; exact Ext.draw _
      clear hw67
      have X68 := Ext.gr X47 E66
      refine RW_d _ rfl (fun v => by dsimp only [List.set]; try rfl) (fun u hu hF => ?_) (fun v69 => ?_)
      · clear hF
        refine doesG_un rfl ?_
        refine (does_fieldAddr (ev rfl) fa29_0).mono ?_; rintro _ _ ⟨rfl, rfl⟩
        exact ⟨rfl, Ext.refl _⟩
      refine RW_d _ rfl (fun v => by dsimp only [List.set]; try rfl) (fun u hu hF => ?_) (fun v70 => ?_)
      · have h28_ : v69 = (Pt b12 0) := hF.1
        clear hF
        refine doesG_un rfl ?_
        obtain rfl := h28_
        refine (does_load (u := (.slice p5 A_m.places.length q6)) (ev rfl) Try.isAgg27 (Cells.at (Blk.cells (((((hB14.ext E21).ext E32).kl E45 (ninS (Nat.ne_of_lt n37) nin0)).ext E66).ext hu)) 0 rfl)).mono ?_; rintro _ _ ⟨rfl, rfl⟩
        exact ⟨rfl, Ext.refl _⟩
      refine RW_d _ rfl (fun v => by dsimp only [List.set]; try rfl) (fun u hu hF => ?_) (fun v71 => ?_)
      · clear hF
        refine doesG_un rfl ?_
        refine (does_move (u := (.slice p61 el1.length q62)) (ev rfl)).mono ?_; rintro _ _ ⟨rfl, rfl⟩
        exact ⟨rfl, Ext.refl _⟩
      refine RW_d _ rfl (fun v => by dsimp only [List.set]; try rfl) (fun u hu hF => ?_) (fun v72 => ?_)
      · have h30_ : v71 = (.slice p61 el1.length q62) := hF.1
        clear hF
        refine doesG_un rfl ?_
        obtain rfl := h30_
        refine (does_indexSl (R := RI) (i := 0) (xs := el1) (e := el2) Try.underlying44 Try.sizeOf2 (ev rfl) (ev rfl) (Sl.ext (Sl.ext hs63 RI.mono (Ext.gr X47 E66)) RI.mono hu) (by omega) hel2).mono ?_; rintro v u' ⟨b, of, cs, hv, hc, hR, hu'⟩; subst hu'
        exact ⟨⟨b, of, cs, hv, hc, hR⟩, Ext.refl _⟩
      refine RW_d _ rfl (fun v => by dsimp only [List.set]; try rfl) (fun u hu hF => ?_) (fun v73 => ?_)
      · have h31_ : PtrR RI u v72 el2 := hF.1
        clear hF
        refine doesG_un rfl ?_
        obtain ⟨b31_, o31_, _, rfl, hc31_, rfl⟩ := h31_
        refine (does_load (u := (Iv el2)) (ev rfl) Try.isAgg2 (Cells.at hc31_ 0 rfl)).mono ?_; rintro _ _ ⟨rfl, rfl⟩
        exact ⟨rfl, Ext.refl _⟩
      refine RW_d _ rfl (fun v => by dsimp only [List.set]; try rfl) (fun u hu hF => ?_) (fun v74 => ?_)
      · have h29_ : v70 = (.slice p5 A_m.places.length q6) := hF.1
        have h32_ : v73 = (Iv el2) := hF.2.1
        clear hF
        refine doesG_un rfl ?_
        obtain rfl := h29_
        obtain rfl := h32_
        refine (does_indexSl (R := RV3) (i := el2) (xs := A_m.places) (e := el3) Try.underlying27 Try.sizeOf53 (ev rfl) (ev rfl) (Sl.ext (Sl.ext hs7 RV3.mono (Ext.gr X47 E66)) RV3.mono hu) (by omega) hel3).mono ?_; rintro v u' ⟨b, of, cs, hv, hc, hR, hu'⟩; subst hu'
        exact ⟨⟨b, of, cs, hv, hc, hR⟩, Ext.refl _⟩
      refine RW_d _ rfl (fun v => by dsimp only [List.set]; try rfl) (fun u hu hF => ?_) (fun v75 => ?_)
      · have h33_ : PtrR RV3 u v74 el3 := hF.1
        clear hF
        refine doesG_un rfl ?_
        obtain ⟨b33_, o33_, _, rfl, hc33_, ⟨r33_1, r33_3, r33_5, rfl, h33_2, h33_4, h33_6⟩⟩ := h33_
        refine (does_loadAgg (cs := [(Fl r33_1), (Fl r33_3), (Fl r33_5)]) (ev rfl) Try.isAgg53 Try.sizeOf53 hc33_ rfl).mono ?_; rintro _ _ ⟨rfl, rfl⟩
        exact ⟨⟨[(Fl r33_1), (Fl r33_3), (Fl r33_5)], rfl, ⟨r33_1, r33_3, r33_5, rfl, (by first | assumption | rfl), (by first | assumption | rfl), (by first | assumption | rfl)⟩⟩, Ext.refl _⟩
      refine RW_d _ rfl (fun v => by dsimp only [List.set]; try rfl) (fun u hu hF => ?_) (fun v76 => ?_)
      · clear hF
        refine doesG_un rfl ?_
        refine (does_alloc z53).mono ?_; rintro _ _ ⟨b, rfl, hb, hB, hx⟩
        exact ⟨⟨b, rfl, Nat.le_trans (Nat.le_trans (Below.size E66) (Below.size hu)) hb, hB⟩, hx⟩
      refine RW_fin ?_; intro w77 E78 hP79
      obtain ⟨⟨⟨⟨⟨⟨⟨⟨-, -⟩, -⟩, -⟩, -⟩, -⟩, -⟩, q80⟩, q81⟩ := hP79
      have X82 := Ext.gr X68 E78
      have q80 : ∃ cs_1 : List Value, v75 = (.agg cs_1.toArray) ∧ RV3 w el3 cs_1 := q80
      obtain ⟨_, rfl, ⟨r83, r85, r87, rfl, h84, h86, h88⟩⟩ := q80
      have q81 : ∃ b : Nat, v76 = .pointer (some ⟨b, 0, none⟩) ∧ w44.heap.size ≤ b ∧ Blk w77 b [(Fl 0), (Fl 0), (Fl 0)] := q81
      obtain ⟨b89, rfl, hb90, hB91⟩ := q81
      have n92 : b12 < b89 := Nat.lt_of_lt_of_le (Blk.lt (((hB14.ext E21).ext E32).kl E45 (ninS (Nat.ne_of_lt n37) nin0))) hb90
      have n93 : b29 < b89 := Nat.lt_of_lt_of_le (RowG.lt hR48) hb90
      have n94 : b55 < b89 := Nat.lt_of_lt_of_le (cell_lt (Cells.at (hc58.ext X47) 0 rfl)) hb90
      have g95 : w.heap.size ≤ b89 := Nat.le_trans (Below.size X47) hb90
      show wpList _ _ _ _ (fr [_, _, _, _, _, _, _, _, _, _, _, _, _, _, _, _, _, _, _, _, _, _, _, _, _, _, _, _, _, _, _, _, _, _, _, _, _, _, _, _, _, _, _, _, _, _, _, _, _, _, _, _, _, _, _, _, _, _, _, _, _, _, _, _, _, _, _, _, _, _, _, _, _, _, _, _, _, _, _, _, _, _, _, _, _, _, _, _, _, _, _]) _
      refine seqn rfl rfl (does_store (n := 3) (cs := [(Fl 0), (Fl 0), (Fl 0)]) (u := (.agg #[(Fl r83), (Fl r85), (Fl r87)])) (ev rfl) (ev rfl) Try.sizeOf53 rfl hB91 (Nat.le_of_ble_eq_true rfl) rfl) ?_; rintro _ w98 ⟨rfl, W96, hB97⟩
      change Blk _ _ [(Fl r83), (Fl r85), (Fl r87)] at hB97
      have X99 := Below.wr X82 W96 g95
      refine wpList_nil (hK64 _ _ ?_)
      refine wp_seq_k fun K100 hK100 => ?_
      obtain ⟨el4, hel4⟩ : ∃ e, el1[1]? = some e := ⟨_, List.getElem?_eq_getElem (by omega)⟩
      have hb4 := htr.2 _ (List.mem_of_getElem? hel4)
      obtain ⟨el5, hel5⟩ : ∃ e, A_m.places[el4.toNat]? = some e := ⟨_, List.getElem?_eq_getElem (by omega)⟩
      obtain ⟨el6, hel6⟩ : ∃ e, el1[2]? = some e := ⟨_, List.getElem?_eq_getElem (by omega)⟩
      have hb6 := htr.2 _ (List.mem_of_getElem? hel6)
      obtain ⟨el7, hel7⟩ : ∃ e, A_m.places[el6.toNat]? = some e := ⟨_, List.getElem?_eq_getElem (by omega)⟩
      refine region_draw (
        [Fact.pure [] (fun v => v = (Pt b12 0)),
    Fact.pure [35] (fun v => v = (.slice p5 A_m.places.length q6)),
    Fact.pure [] (fun v => v = (.slice p61 el1.length q62)),
    Fact.mem [37] (fun v w' => PtrR RI w' v el4) (by intro v w1 w2 hx h; exact h.ext RI.mono hx),
    Fact.pure [38] (fun v => v = (Iv el4)),
    Fact.mem [36, 39] (fun v w' => PtrR RV3 w' v el5) (by intro v w1 w2 hx h; exact h.ext RV3.mono hx),
    Fact.pure [40] (fun v => ∃ cs_1 : List Value, v = (.agg cs_1.toArray) ∧ RV3 w el5 cs_1),
    Fact.pure [] (fun v => v = (.agg #[(Fl r83), (Fl r85), (Fl r87)])),
    Fact.pure [41, 42] (fun v => ∃ cs_1 : List Value, v = (.agg cs_1.toArray) ∧ RV3 w (vsub el5 el3) cs_1),
    Fact.pure [] (fun v => v = (Pt b12 0)),
    Fact.pure [44] (fun v => v = (.slice p5 A_m.places.length q6)),
    Fact.pure [] (fun v => v = (.slice p61 el1.length q62)),
    Fact.mem [46] (fun v w' => PtrR RI w' v el6) (by intro v w1 w2 hx h; exact h.ext RI.mono hx),
    Fact.pure [47] (fun v => v = (Iv el6)),
    Fact.mem [45, 48] (fun v w' => PtrR RV3 w' v el7) (by intro v w1 w2 hx h; exact h.ext RV3.mono hx),
    Fact.pure [49] (fun v => ∃ cs_1 : List Value, v = (.agg cs_1.toArray) ∧ RV3 w el7 cs_1),
    Fact.pure [] (fun v => v = (.agg #[(Fl r83), (Fl r85), (Fl r87)])),
    Fact.pure [50, 51] (fun v => ∃ cs_1 : List Value, v = (.agg cs_1.toArray) ∧ RV3 w (vsub el7 el3) cs_1),
    Fact.pure [43, 52] (fun v => ∃ cs_1 : List Value, v = (.agg cs_1.toArray) ∧ RV3 w (crossF (vsub el5 el3) (vsub el7 el3)) cs_1),
    Fact.mem [] (fun v w' => ∃ b : Nat, v = .pointer (some ⟨b, 0, none⟩) ∧ w98.heap.size ≤ b ∧ Blk w' b [(Fl 0), (Fl 0), (Fl 0)]) (by rintro v w1 w2 hx ⟨b, rfl, hb, hB⟩; exact ⟨b, rfl, hb, (hB.ext hx)⟩)]) mixed (by kernel_rfl) (by intro _ _ d _ _ h; cases d <;> exact h) ?_
      obtain ⟨w101, hw103⟩ : ∃ w', w' = World.drew w98 := ⟨_, rfl⟩; rw [← hw103]; have E102 : Ext w98 w101 := by rw [hw103]; exact Ext.draw _
      clear hw103
      have X104 := Ext.gr X99 E102
      refine RW_d _ rfl (fun v => by dsimp only [List.set]; try rfl) (fun u hu hF => ?_) (fun v105 => ?_)
      · clear hF
        refine doesG_un rfl ?_
        refine (does_fieldAddr (ev rfl) fa29_0).mono ?_; rintro _ _ ⟨rfl, rfl⟩
        exact ⟨rfl, Ext.refl _⟩
      refine RW_d _ rfl (fun v => by dsimp only [List.set]; try rfl) (fun u hu hF => ?_) (fun v106 => ?_)
      · have h35_ : v105 = (Pt b12 0) := hF.1
        clear hF
        refine doesG_un rfl ?_
        obtain rfl := h35_
        refine (does_load (u := (.slice p5 A_m.places.length q6)) (ev rfl) Try.isAgg27 (Cells.at (Blk.cells ((((((((hB14.ext E21).ext E32).kl E45 (ninS (Nat.ne_of_lt n37) nin0)).ext E66).ext E78).wr W96 (Nat.ne_of_lt n92)).ext E102).ext hu)) 0 rfl)).mono ?_; rintro _ _ ⟨rfl, rfl⟩
        exact ⟨rfl, Ext.refl _⟩
      refine RW_d _ rfl (fun v => by dsimp only [List.set]; try rfl) (fun u hu hF => ?_) (fun v107 => ?_)
      · clear hF
        refine doesG_un rfl ?_
        refine (does_move (u := (.slice p61 el1.length q62)) (ev rfl)).mono ?_; rintro _ _ ⟨rfl, rfl⟩
        exact ⟨rfl, Ext.refl _⟩
      refine RW_d _ rfl (fun v => by dsimp only [List.set]; try rfl) (fun u hu hF => ?_) (fun v108 => ?_)
      · have h37_ : v107 = (.slice p61 el1.length q62) := hF.1
        clear hF
        refine doesG_un rfl ?_
        obtain rfl := h37_
        refine (does_indexSl (R := RI) (i := 1) (xs := el1) (e := el4) Try.underlying44 Try.sizeOf2 (ev rfl) (ev rfl) (Sl.ext (Sl.ext hs63 RI.mono (Ext.gr X99 E102)) RI.mono hu) (by omega) hel4).mono ?_; rintro v u' ⟨b, of, cs, hv, hc, hR, hu'⟩; subst hu'
        exact ⟨⟨b, of, cs, hv, hc, hR⟩, Ext.refl _⟩
      refine RW_d _ rfl (fun v => by dsimp only [List.set]; try rfl) (fun u hu hF => ?_) (fun v109 => ?_)
      · have h38_ : PtrR RI u v108 el4 := hF.1
        clear hF
        refine doesG_un rfl ?_
        obtain ⟨b38_, o38_, _, rfl, hc38_, rfl⟩ := h38_
        refine (does_load (u := (Iv el4)) (ev rfl) Try.isAgg2 (Cells.at hc38_ 0 rfl)).mono ?_; rintro _ _ ⟨rfl, rfl⟩
        exact ⟨rfl, Ext.refl _⟩
      refine RW_d _ rfl (fun v => by dsimp only [List.set]; try rfl) (fun u hu hF => ?_) (fun v110 => ?_)
      · have h36_ : v106 = (.slice p5 A_m.places.length q6) := hF.1
        have h39_ : v109 = (Iv el4) := hF.2.1
        clear hF
        refine doesG_un rfl ?_
        obtain rfl := h36_
        obtain rfl := h39_
        refine (does_indexSl (R := RV3) (i := el4) (xs := A_m.places) (e := el5) Try.underlying27 Try.sizeOf53 (ev rfl) (ev rfl) (Sl.ext (Sl.ext hs7 RV3.mono (Ext.gr X99 E102)) RV3.mono hu) (by omega) hel5).mono ?_; rintro v u' ⟨b, of, cs, hv, hc, hR, hu'⟩; subst hu'
        exact ⟨⟨b, of, cs, hv, hc, hR⟩, Ext.refl _⟩
      refine RW_d _ rfl (fun v => by dsimp only [List.set]; try rfl) (fun u hu hF => ?_) (fun v111 => ?_)
      · have h40_ : PtrR RV3 u v110 el5 := hF.1
        clear hF
        refine doesG_un rfl ?_
        obtain ⟨b40_, o40_, _, rfl, hc40_, ⟨r40_1, r40_3, r40_5, rfl, h40_2, h40_4, h40_6⟩⟩ := h40_
        refine (does_loadAgg (cs := [(Fl r40_1), (Fl r40_3), (Fl r40_5)]) (ev rfl) Try.isAgg53 Try.sizeOf53 hc40_ rfl).mono ?_; rintro _ _ ⟨rfl, rfl⟩
        exact ⟨⟨[(Fl r40_1), (Fl r40_3), (Fl r40_5)], rfl, ⟨r40_1, r40_3, r40_5, rfl, (by first | assumption | rfl), (by first | assumption | rfl), (by first | assumption | rfl)⟩⟩, Ext.refl _⟩
      refine RW_d _ rfl (fun v => by dsimp only [List.set]; try rfl) (fun u hu hF => ?_) (fun v112 => ?_)
      · clear hF
        refine doesG_un rfl ?_
        refine (does_loadAgg (cs := [(Fl r83), (Fl r85), (Fl r87)]) (ev rfl) Try.isAgg53 Try.sizeOf53 (Blk.cells ((hB97.ext E102).ext hu)) rfl).mono ?_; rintro _ _ ⟨rfl, rfl⟩
        exact ⟨rfl, Ext.refl _⟩
      refine RW_d _ rfl (fun v => by dsimp only [List.set]; try rfl) (fun u hu hF => ?_) (fun v113 => ?_)
      · have h41_ : ∃ cs_1 : List Value, v111 = (.agg cs_1.toArray) ∧ RV3 w el5 cs_1 := hF.1
        have h42_ : v112 = (.agg #[(Fl r83), (Fl r85), (Fl r87)]) := hF.2.1
        clear hF
        refine doesG_un rfl ?_
        obtain ⟨_, rfl, ⟨r41_1, r41_3, r41_5, rfl, h41_2, h41_4, h41_6⟩⟩ := h41_
        obtain rfl := h42_
        refine (does_call (args := #[(.agg #[(Fl r41_1), (Fl r41_3), (Fl r41_5)]), (.agg #[(Fl r83), (Fl r85), (Fl r87)])]) cal29 (evs rfl) (c_spec_l01Less [(Fl r41_1), (Fl r41_3), (Fl r41_5)] el5 [(Fl r83), (Fl r85), (Fl r87)] el3 _ ⟨r41_1, r41_3, r41_5, rfl, (by assumption), (by assumption), (by assumption)⟩ ⟨r83, r85, r87, rfl, h84, h86, h88⟩)).mono ?_; rintro v u' ⟨hx, ⟨csn1, hv, k0⟩⟩
        exact ⟨⟨csn1, hv.trans (by simp only [h41_2, h41_4, h41_6]), (by first | exact k0 | simpa only [h41_2, h41_4, h41_6] using RV3.any (w := w) k0)⟩, hx⟩
      refine RW_d _ rfl (fun v => by dsimp only [List.set]; try rfl) (fun u hu hF => ?_) (fun v114 => ?_)
      · clear hF
        refine doesG_un rfl ?_
        refine (does_fieldAddr (ev rfl) fa29_0).mono ?_; rintro _ _ ⟨rfl, rfl⟩
        exact ⟨rfl, Ext.refl _⟩
      refine RW_d _ rfl (fun v => by dsimp only [List.set]; try rfl) (fun u hu hF => ?_) (fun v115 => ?_)
      · have h44_ : v114 = (Pt b12 0) := hF.1
        clear hF
        refine doesG_un rfl ?_
        obtain rfl := h44_
        refine (does_load (u := (.slice p5 A_m.places.length q6)) (ev rfl) Try.isAgg27 (Cells.at (Blk.cells ((((((((hB14.ext E21).ext E32).kl E45 (ninS (Nat.ne_of_lt n37) nin0)).ext E66).ext E78).wr W96 (Nat.ne_of_lt n92)).ext E102).ext hu)) 0 rfl)).mono ?_; rintro _ _ ⟨rfl, rfl⟩
        exact ⟨rfl, Ext.refl _⟩
      refine RW_d _ rfl (fun v => by dsimp only [List.set]; try rfl) (fun u hu hF => ?_) (fun v116 => ?_)
      · clear hF
        refine doesG_un rfl ?_
        refine (does_move (u := (.slice p61 el1.length q62)) (ev rfl)).mono ?_; rintro _ _ ⟨rfl, rfl⟩
        exact ⟨rfl, Ext.refl _⟩
      refine RW_d _ rfl (fun v => by dsimp only [List.set]; try rfl) (fun u hu hF => ?_) (fun v117 => ?_)
      · have h46_ : v116 = (.slice p61 el1.length q62) := hF.1
        clear hF
        refine doesG_un rfl ?_
        obtain rfl := h46_
        refine (does_indexSl (R := RI) (i := 2) (xs := el1) (e := el6) Try.underlying44 Try.sizeOf2 (ev rfl) (ev rfl) (Sl.ext (Sl.ext hs63 RI.mono (Ext.gr X99 E102)) RI.mono hu) (by omega) hel6).mono ?_; rintro v u' ⟨b, of, cs, hv, hc, hR, hu'⟩; subst hu'
        exact ⟨⟨b, of, cs, hv, hc, hR⟩, Ext.refl _⟩
      refine RW_d _ rfl (fun v => by dsimp only [List.set]; try rfl) (fun u hu hF => ?_) (fun v118 => ?_)
      · have h47_ : PtrR RI u v117 el6 := hF.1
        clear hF
        refine doesG_un rfl ?_
        obtain ⟨b47_, o47_, _, rfl, hc47_, rfl⟩ := h47_
        refine (does_load (u := (Iv el6)) (ev rfl) Try.isAgg2 (Cells.at hc47_ 0 rfl)).mono ?_; rintro _ _ ⟨rfl, rfl⟩
        exact ⟨rfl, Ext.refl _⟩
      refine RW_d _ rfl (fun v => by dsimp only [List.set]; try rfl) (fun u hu hF => ?_) (fun v119 => ?_)
      · have h45_ : v115 = (.slice p5 A_m.places.length q6) := hF.1
        have h48_ : v118 = (Iv el6) := hF.2.1
        clear hF
        refine doesG_un rfl ?_
        obtain rfl := h45_
        obtain rfl := h48_
        refine (does_indexSl (R := RV3) (i := el6) (xs := A_m.places) (e := el7) Try.underlying27 Try.sizeOf53 (ev rfl) (ev rfl) (Sl.ext (Sl.ext hs7 RV3.mono (Ext.gr X99 E102)) RV3.mono hu) (by omega) hel7).mono ?_; rintro v u' ⟨b, of, cs, hv, hc, hR, hu'⟩; subst hu'
        exact ⟨⟨b, of, cs, hv, hc, hR⟩, Ext.refl _⟩
      refine RW_d _ rfl (fun v => by dsimp only [List.set]; try rfl) (fun u hu hF => ?_) (fun v120 => ?_)
      · have h49_ : PtrR RV3 u v119 el7 := hF.1
        clear hF
        refine doesG_un rfl ?_
        obtain ⟨b49_, o49_, _, rfl, hc49_, ⟨r49_1, r49_3, r49_5, rfl, h49_2, h49_4, h49_6⟩⟩ := h49_
        refine (does_loadAgg (cs := [(Fl r49_1), (Fl r49_3), (Fl r49_5)]) (ev rfl) Try.isAgg53 Try.sizeOf53 hc49_ rfl).mono ?_; rintro _ _ ⟨rfl, rfl⟩
        exact ⟨⟨[(Fl r49_1), (Fl r49_3), (Fl r49_5)], rfl, ⟨r49_1, r49_3, r49_5, rfl, (by first | assumption | rfl), (by first | assumption | rfl), (by first | assumption | rfl)⟩⟩, Ext.refl _⟩
      refine RW_d _ rfl (fun v => by dsimp only [List.set]; try rfl) (fun u hu hF => ?_) (fun v121 => ?_)
      · clear hF
        refine doesG_un rfl ?_
        refine (does_loadAgg (cs := [(Fl r83), (Fl r85), (Fl r87)]) (ev rfl) Try.isAgg53 Try.sizeOf53 (Blk.cells ((hB97.ext E102).ext hu)) rfl).mono ?_; rintro _ _ ⟨rfl, rfl⟩
        exact ⟨rfl, Ext.refl _⟩
      refine RW_d _ rfl (fun v => by dsimp only [List.set]; try rfl) (fun u hu hF => ?_) (fun v122 => ?_)
      · have h50_ : ∃ cs_1 : List Value, v120 = (.agg cs_1.toArray) ∧ RV3 w el7 cs_1 := hF.1
        have h51_ : v121 = (.agg #[(Fl r83), (Fl r85), (Fl r87)]) := hF.2.1
        clear hF
        refine doesG_un rfl ?_
        obtain ⟨_, rfl, ⟨r50_1, r50_3, r50_5, rfl, h50_2, h50_4, h50_6⟩⟩ := h50_
        obtain rfl := h51_
        refine (does_call (args := #[(.agg #[(Fl r50_1), (Fl r50_3), (Fl r50_5)]), (.agg #[(Fl r83), (Fl r85), (Fl r87)])]) cal29 (evs rfl) (c_spec_l01Less [(Fl r50_1), (Fl r50_3), (Fl r50_5)] el7 [(Fl r83), (Fl r85), (Fl r87)] el3 _ ⟨r50_1, r50_3, r50_5, rfl, (by assumption), (by assumption), (by assumption)⟩ ⟨r83, r85, r87, rfl, h84, h86, h88⟩)).mono ?_; rintro v u' ⟨hx, ⟨csn1, hv, k0⟩⟩
        exact ⟨⟨csn1, hv.trans (by simp only [h50_2, h50_4, h50_6]), (by first | exact k0 | simpa only [h50_2, h50_4, h50_6] using RV3.any (w := w) k0)⟩, hx⟩
      refine RW_d _ rfl (fun v => by dsimp only [List.set]; try rfl) (fun u hu hF => ?_) (fun v123 => ?_)
      · have h43_ : ∃ cs_1 : List Value, v113 = (.agg cs_1.toArray) ∧ RV3 w (vsub el5 el3) cs_1 := hF.1
        have h52_ : ∃ cs_1 : List Value, v122 = (.agg cs_1.toArray) ∧ RV3 w (vsub el7 el3) cs_1 := hF.2.1
        clear hF
        refine doesG_un rfl ?_
        obtain ⟨_, rfl, ⟨r43_1, r43_3, r43_5, rfl, h43_2, h43_4, h43_6⟩⟩ := h43_
        obtain ⟨_, rfl, ⟨r52_1, r52_3, r52_5, rfl, h52_2, h52_4, h52_6⟩⟩ := h52_
        refine (does_call (args := #[(.agg #[(Fl r43_1), (Fl r43_3), (Fl r43_5)]), (.agg #[(Fl r52_1), (Fl r52_3), (Fl r52_5)])]) cal28 (evs rfl) (c_spec_l01Cross [(Fl r43_1), (Fl r43_3), (Fl r43_5)] (vsub el5 el3) [(Fl r52_1), (Fl r52_3), (Fl r52_5)] (vsub el7 el3) _ ⟨r43_1, r43_3, r43_5, rfl, (by assumption), (by assumption), (by assumption)⟩ ⟨r52_1, r52_3, r52_5, rfl, (by assumption), (by assumption), (by assumption)⟩)).mono ?_; rintro v u' ⟨hx, ⟨csn1, hv, k0⟩⟩
        exact ⟨⟨csn1, hv.trans (by simp only [h43_2, h43_4, h43_6, h52_2, h52_4, h52_6]), (by first | exact k0 | simpa only [h43_2, h43_4, h43_6, h52_2, h52_4, h52_6] using RV3.any (w := w) k0)⟩, hx⟩
      refine RW_d _ rfl (fun v => by dsimp only [List.set]; try rfl) (fun u hu hF => ?_) (fun v124 => ?_)
      · clear hF
        refine doesG_un rfl ?_
        refine (does_alloc z53).mono ?_; rintro _ _ ⟨b, rfl, hb, hB, hx⟩
        exact ⟨⟨b, rfl, Nat.le_trans (Nat.le_trans (Below.size E102) (Below.size hu)) hb, hB⟩, hx⟩
      refine RW_fin ?_; intro w125 E126 hP127
      obtain ⟨⟨⟨⟨⟨⟨⟨⟨⟨⟨⟨⟨⟨⟨⟨⟨⟨⟨⟨⟨-, -⟩, -⟩, -⟩, -⟩, -⟩, -⟩, -⟩, -⟩, -⟩, -⟩, -⟩, -⟩, -⟩, -⟩, -⟩, -⟩, -⟩, -⟩, q128⟩, q129⟩ := hP127
      have X130 := Ext.gr X104 E126
      have q128 : ∃ cs_1 : List Value, v123 = (.agg cs_1.toArray) ∧ RV3 w (crossF (vsub el5 el3) (vsub el7 el3)) cs_1 := q128
      obtain ⟨_, rfl, ⟨r131, r133, r135, rfl, h132, h134, h136⟩⟩ := q128
      have q129 : ∃ b : Nat, v124 = .pointer (some ⟨b, 0, none⟩) ∧ w98.heap.size ≤ b ∧ Blk w125 b [(Fl 0), (Fl 0), (Fl 0)] := q129
      obtain ⟨b137, rfl, hb138, hB139⟩ := q129
      have n140 : b12 < b137 := Nat.lt_of_lt_of_le (Blk.lt ((((((hB14.ext E21).ext E32).kl E45 (ninS (Nat.ne_of_lt n37) nin0)).ext E66).ext E78).wr W96 (Nat.ne_of_lt n92))) hb138
      have n141 : b29 < b137 := Nat.lt_of_lt_of_le (RowG.lt (RowG.kl (RowG.ext (RowG.ext hR48 RV3.flat E66) RV3.flat E78) RV3.flat (KpL.of_wr W96) (ninS (Nat.ne_of_lt n93) nin0))) hb138
      have n142 : b55 < b137 := Nat.lt_of_lt_of_le (cell_lt (Cells.at (hc58.ext X99) 0 rfl)) hb138
      have n143 : b89 < b137 := Nat.lt_of_lt_of_le (Blk.lt hB97) hb138
      have g144 : w.heap.size ≤ b137 := Nat.le_trans (Below.size X99) hb138
      show wpList _ _ _ _ (fr [_, _, _, _, _, _, _, _, _, _, _, _, _, _, _, _, _, _, _, _, _, _, _, _, _, _, _, _, _, _, _, _, _, _, _, _, _, _, _, _, _, _, _, _, _, _, _, _, _, _, _, _, _, _, _, _, _, _, _, _, _, _, _, _, _, _, _, _, _, _, _, _, _, _, _, _, _, _, _, _, _, _, _, _, _, _, _, _, _, _, _]) _
      refine seqn rfl rfl (does_store (n := 3) (cs := [(Fl 0), (Fl 0), (Fl 0)]) (u := (.agg #[(Fl r131), (Fl r133), (Fl r135)])) (ev rfl) (ev rfl) Try.sizeOf53 rfl hB139 (Nat.le_of_ble_eq_true rfl) rfl) ?_; rintro _ w147 ⟨rfl, W145, hB146⟩
      change Blk _ _ [(Fl r131), (Fl r133), (Fl r135)] at hB146
      have X148 := Below.wr X130 W145 g144
      refine wpList_nil (hK100 _ _ ?_)
      refine wp_seq_k fun K149 hK149 => ?_
      refine wp_region_lit ?_
      refine q_is rfl rfl (does_move (u := (.slice p61 el1.length q62)) (ev rfl)) (by dsimp only [List.set]; try rfl) ?_
      refine q_is rfl rfl (does_len_slice Try.underlying44 (ev rfl)) (by dsimp only [List.set]; try rfl) ?_
      refine q_is rfl rfl (does_move (u := (Iv 0)) (ev rfl)) (by dsimp only [List.set]; try rfl) ?_
      refine wpList_nil (hK149 _ _ ?_)
      refine wp_block ?_
      refine loop_ghost (σ := Nat) (fun q a w' => ∃ u150 : Nat → Value, a = fr [(.agg #[(.slice p5 A_m.places.length q6), (.slice p8 A_m.tris.length q9)]), (Pt b12 0), (.slice none 0 0), (Bo false), (.slice (some ⟨b29, 0, none⟩) A_m.places.length A_m.places.length), (Iv (k : Int)), (.slice p61 el1.length q62), (Pt b89 0), (Pt b137 0), (u150 9), Ud, (Bo (meshOk A_m)), (Bo (!(meshOk A_m))), (Pt b12 0), (.slice p5 A_m.places.length q6), (Iv (A_m.places.length : Int)), (.slice (some ⟨b29, 0, none⟩) A_m.places.length A_m.places.length), (Pt b12 1), (.slice p8 A_m.tris.length q9), (Iv (A_m.tris.length : Int)), (Iv (k : Int)), (Bo (icmp .lss (k : Int) (A_m.tris.length : Int))), (Iv (k : Int)), (Pt b12 1), (.slice p8 A_m.tris.length q9), (Iv (k : Int)), (Pt b55 o56), (.slice p61 el1.length q62), v69, v70, v71, v72, v73, v74, (.agg #[(Fl r83), (Fl r85), (Fl r87)]), v105, v106, v107, v108, v109, v110, v111, v112, v113, v114, v115, v116, v117, v118, v119, v120, v121, v122, (.agg #[(Fl r131), (Fl r133), (Fl r135)]), (.slice p61 el1.length q62), (Iv (el1.length : Int)), (Iv (q : Int)), (u150 57), (u150 58), (u150 59), (u150 60), (u150 61), (u150 62), (u150 63), (u150 64), (u150 65), (u150 66), (u150 67), (u150 68), (u150 69), (u150 70), (u150 71), (u150 72), (u150 73), (u150 74), (u43 75), Ud, Ud, Ud, Ud, Ud, Ud, Ud, Ud, Ud, Ud, Ud, Ud, Ud, Ud, Ud] ∧ KpL [b29] w147 w' ∧ RowG RV3 3 w' b29 ((el1.take q).foldl (addI (nrmN A_m.places el1)) (nrmTo A_m k)) ∧ (q ≤ el1.length)) (fun q => el1.length - q) 0 ?_ ?_
      · refine ⟨fun t => (([(.agg #[(.slice p5 A_m.places.length q6), (.slice p8 A_m.tris.length q9)]), (Pt b12 0), (.slice none 0 0), (Bo false), (.slice (some ⟨b29, 0, none⟩) A_m.places.length A_m.places.length), (Iv (k : Int)), (.slice p61 el1.length q62), (Pt b89 0), (Pt b137 0), (u43 9), Ud, (Bo (meshOk A_m)), (Bo (!(meshOk A_m))), (Pt b12 0), (.slice p5 A_m.places.length q6), (Iv (A_m.places.length : Int)), (.slice (some ⟨b29, 0, none⟩) A_m.places.length A_m.places.length), (Pt b12 1), (.slice p8 A_m.tris.length q9), (Iv (A_m.tris.length : Int)), (Iv (k : Int)), (Bo (icmp .lss (k : Int) (A_m.tris.length : Int))), (Iv (k : Int)), (Pt b12 1), (.slice p8 A_m.tris.length q9), (Iv (k : Int)), (Pt b55 o56), (.slice p61 el1.length q62), v69, v70, v71, v72, v73, v74, (.agg #[(Fl r83), (Fl r85), (Fl r87)]), v105, v106, v107, v108, v109, v110, v111, v112, v113, v114, v115, v116, v117, v118, v119, v120, v121, v122, (.agg #[(Fl r131), (Fl r133), (Fl r135)]), (.slice p61 el1.length q62), (Iv (el1.length : Int)), (Iv 0), (u43 57), (u43 58), (u43 59), (u43 60), (u43 61), (u43 62), (u43 63), (u43 64), (u43 65), (u43 66), (u43 67), (u43 68), (u43 69), (u43 70), (u43 71), (u43 72), (u43 73), (u43 74), (u43 75), Ud, Ud, Ud, Ud, Ud, Ud, Ud, Ud, Ud, Ud, Ud, Ud, Ud, Ud, Ud] : List Value)[t]?).getD undef, rfl, KpL.refl _ _, (RowG.cast (RowG.kl (RowG.ext (RowG.ext (RowG.kl (RowG.ext (RowG.ext hR48 RV3.flat E66) RV3.flat E78) RV3.flat (KpL.of_wr W96) (ninS (Nat.ne_of_lt n93) nin0)) RV3.flat E102) RV3.flat E126) RV3.flat (KpL.of_wr W145) (ninS (Nat.ne_of_lt n141) nin0)) (by (try dsimp only); rfl)), ?_⟩
        exact Nat.zero_le _
      · rintro q a w151 ⟨u150, rfl, E152, hRg0, hq⟩
        have X154 := Below.kl X148 E152 (allS g38 all0) (Nat.le_refl _)
        have hR155 := hRg0; clear hRg0
        refine wp_seq_k fun K156 hK156 => ?_
        refine wp_region_lit ?_
        refine q_is rfl rfl (does_icmp (p := (q : Int)) (q := (el1.length : Int)) (.inr (.inr (.inl rfl))) (ev rfl) (ev rfl)) (by dsimp only [List.set]; try rfl) ?_
        refine wpList_nil (hK156 _ _ ?_)
        refine wp_seq_k fun K157 hK157 => ?_
        refine wp_cond_split (t := icmp .lss (q : Int) (el1.length : Int)) (ev rfl) (fun c158 => ?_) (fun c158 => ?_)
        · have c158' := c158
          (try simp only [icmp, Bool.and_eq_true, Bool.or_eq_true, Bool.and_eq_false_iff, Bool.or_eq_false_iff, Bool.not_eq_true', Bool.not_eq_false', decide_eq_true_eq, decide_eq_false_iff_not, beq_iff_eq, bne_iff_ne, beq_eq_false_iff_ne, bne_eq_false_iff_eq] at c158')
          refine wp_skip (hK157 _ _ ?_)
          refine wp_seq_k fun K159 hK159 => ?_
          refine wp_block ?_
          refine wp_seq_k fun K160 hK160 => ?_
          refine wp_region_lit ?_
          refine q_is rfl rfl (does_move (u := (Iv (q : Int))) (ev rfl)) (by dsimp only [List.set]; try rfl) ?_
          refine q_is rfl rfl (does_assign (u := (Iv (q : Int))) (ev rfl)) (by dsimp only [List.set]; try rfl) ?_
          refine wpList_nil (hK160 _ _ ?_)
          obtain ⟨el8, hel8⟩ : ∃ e, el1[q]? = some e := ⟨_, List.getElem?_eq_getElem (by omega)⟩
          have hb8 := htr.2 _ (List.mem_of_getElem? hel8)
          obtain ⟨el9, hel9⟩ : ∃ e, ((el1.take q).foldl (addI (nrmN A_m.places el1)) (nrmTo A_m k))[el8.toNat]? = some e := ⟨_, List.getElem?_eq_getElem (by first | assumption | omega | (simp only [foldA_len, nrmTo_len, unTo_len, List.length_set, List.length_replicate]; omega) | (simp only [foldA_len, nrmTo_len, unTo_len, List.length_set, List.length_replicate]; done))⟩
          refine region_draw (
            [Fact.pure [] (fun v => v = (.slice (some ⟨b29, 0, none⟩) A_m.places.length A_m.places.length)),
    Fact.pure [] (fun v => v = (.slice p61 el1.length q62)),
    Fact.pure [] (fun v => v = (Iv (q : Int))),
    Fact.mem [60, 61] (fun v w' => PtrR RI w' v el8) (by intro v w1 w2 hx h; exact h.ext RI.mono hx),
    Fact.pure [62] (fun v => v = (Iv el8)),
    Fact.pure [] (fun v => v = (.slice (some ⟨b29, 0, none⟩) A_m.places.length A_m.places.length)),
    Fact.pure [] (fun v => v = (.slice p61 el1.length q62)),
    Fact.pure [] (fun v => v = (Iv (q : Int))),
    Fact.mem [65, 66] (fun v w' => PtrR RI w' v el8) (by intro v w1 w2 hx h; exact h.ext RI.mono hx),
    Fact.pure [67] (fun v => v = (Iv el8)),
    Fact.pure [64, 68] (fun v => v = (Pt b29 (el8.toNat * 3))),
    Fact.pure [69] (fun v => ∃ cs_1 : List Value, v = (.agg cs_1.toArray) ∧ RV3 w el9 cs_1),
    Fact.pure [] (fun v => v = (.agg #[(Fl r131), (Fl r133), (Fl r135)])),
    Fact.pure [70, 71] (fun v => ∃ cs_1 : List Value, v = (.agg cs_1.toArray) ∧ RV3 w (vadd el9 (crossF (vsub el5 el3) (vsub el7 el3))) cs_1),
    Fact.pure [59, 63] (fun v => v = (Pt b29 (el8.toNat * 3)))]) mixed (by kernel_rfl) (by intro _ _ d _ _ h; cases d <;> exact h) ?_
          obtain ⟨w161, hw163⟩ : ∃ w', w' = World.drew w151 := ⟨_, rfl⟩; rw [← hw163]; have E162 : Ext w151 w161 := by rw [hw163]; exact Ext.draw _
          clear hw163
          have X164 := Ext.gr X154 E162
          refine RW_d _ rfl (fun v => by dsimp only [List.set]; try rfl) (fun u hu hF => ?_) (fun v165 => ?_)
          · clear hF
            refine doesG_un rfl ?_
            refine (does_move (u := (.slice (some ⟨b29, 0, none⟩) A_m.places.length A_m.places.length)) (ev rfl)).mono ?_; rintro _ _ ⟨rfl, rfl⟩
            exact ⟨rfl, Ext.refl _⟩
          refine RW_d _ rfl (fun v => by dsimp only [List.set]; try rfl) (fun u hu hF => ?_) (fun v166 => ?_)
          · clear hF
            refine doesG_un rfl ?_
            refine (does_move (u := (.slice p61 el1.length q62)) (ev rfl)).mono ?_; rintro _ _ ⟨rfl, rfl⟩
            exact ⟨rfl, Ext.refl _⟩
          refine RW_d _ rfl (fun v => by dsimp only [List.set]; try rfl) (fun u hu hF => ?_) (fun v167 => ?_)
          · clear hF
            refine doesG_un rfl ?_
            refine (does_move (u := (Iv (q : Int))) (ev rfl)).mono ?_; rintro _ _ ⟨rfl, rfl⟩
            exact ⟨rfl, Ext.refl _⟩
          refine RW_d _ rfl (fun v => by dsimp only [List.set]; try rfl) (fun u hu hF => ?_) (fun v168 => ?_)
          · have h60_ : v166 = (.slice p61 el1.length q62) := hF.1
            have h61_ : v167 = (Iv (q : Int)) := hF.2.1
            clear hF
            refine doesG_un rfl ?_
            obtain rfl := h60_
            obtain rfl := h61_
            refine (does_indexSl (R := RI) (i := (q : Int)) (xs := el1) (e := el8) Try.underlying44 Try.sizeOf2 (ev rfl) (ev rfl) (Sl.ext (Sl.ext hs63 RI.mono (Ext.gr X154 E162)) RI.mono hu) (by omega) hel8).mono ?_; rintro v u' ⟨b, of, cs, hv, hc, hR, hu'⟩; subst hu'
            exact ⟨⟨b, of, cs, hv, hc, hR⟩, Ext.refl _⟩
          refine RW_d _ rfl (fun v => by dsimp only [List.set]; try rfl) (fun u hu hF => ?_) (fun v169 => ?_)
          · have h62_ : PtrR RI u v168 el8 := hF.1
            clear hF
            refine doesG_un rfl ?_
            obtain ⟨b62_, o62_, _, rfl, hc62_, rfl⟩ := h62_
            refine (does_load (u := (Iv el8)) (ev rfl) Try.isAgg2 (Cells.at hc62_ 0 rfl)).mono ?_; rintro _ _ ⟨rfl, rfl⟩
            exact ⟨rfl, Ext.refl _⟩
          refine RW_d _ rfl (fun v => by dsimp only [List.set]; try rfl) (fun u hu hF => ?_) (fun v170 => ?_)
          · clear hF
            refine doesG_un rfl ?_
            refine (does_move (u := (.slice (some ⟨b29, 0, none⟩) A_m.places.length A_m.places.length)) (ev rfl)).mono ?_; rintro _ _ ⟨rfl, rfl⟩
            exact ⟨rfl, Ext.refl _⟩
          refine RW_d _ rfl (fun v => by dsimp only [List.set]; try rfl) (fun u hu hF => ?_) (fun v171 => ?_)
          · clear hF
            refine doesG_un rfl ?_
            refine (does_move (u := (.slice p61 el1.length q62)) (ev rfl)).mono ?_; rintro _ _ ⟨rfl, rfl⟩
            exact ⟨rfl, Ext.refl _⟩
          refine RW_d _ rfl (fun v => by dsimp only [List.set]; try rfl) (fun u hu hF => ?_) (fun v172 => ?_)
          · clear hF
            refine doesG_un rfl ?_
            refine (does_move (u := (Iv (q : Int))) (ev rfl)).mono ?_; rintro _ _ ⟨rfl, rfl⟩
            exact ⟨rfl, Ext.refl _⟩
          refine RW_d _ rfl (fun v => by dsimp only [List.set]; try rfl) (fun u hu hF => ?_) (fun v173 => ?_)
          · have h65_ : v171 = (.slice p61 el1.length q62) := hF.1
            have h66_ : v172 = (Iv (q : Int)) := hF.2.1
            clear hF
            refine doesG_un rfl ?_
            obtain rfl := h65_
            obtain rfl := h66_
            refine (does_indexSl (R := RI) (i := (q : Int)) (xs := el1) (e := el8) Try.underlying44 Try.sizeOf2 (ev rfl) (ev rfl) (Sl.ext (Sl.ext hs63 RI.mono (Ext.gr X154 E162)) RI.mono hu) (by omega) hel8).mono ?_; rintro v u' ⟨b, of, cs, hv, hc, hR, hu'⟩; subst hu'
            exact ⟨⟨b, of, cs, hv, hc, hR⟩, Ext.refl _⟩
          refine RW_d _ rfl (fun v => by dsimp only [List.set]; try rfl) (fun u hu hF => ?_) (fun v174 => ?_)
          · have h67_ : PtrR RI u v173 el8 := hF.1
            clear hF
            refine doesG_un rfl ?_
            obtain ⟨b67_, o67_, _, rfl, hc67_, rfl⟩ := h67_
            refine (does_load (u := (Iv el8)) (ev rfl) Try.isAgg2 (Cells.at hc67_ 0 rfl)).mono ?_; rintro _ _ ⟨rfl, rfl⟩
            exact ⟨rfl, Ext.refl _⟩
          refine RW_d _ rfl (fun v => by dsimp only [List.set]; try rfl) (fun u hu hF => ?_) (fun v175 => ?_)
          · have h64_ : v170 = (.slice (some ⟨b29, 0, none⟩) A_m.places.length A_m.places.length) := hF.1
            have h68_ : v174 = (Iv el8) := hF.2.1
            clear hF
            refine doesG_un rfl ?_
            obtain rfl := h64_
            obtain rfl := h68_
            refine (does_indexOwn (b := b29) (n := A_m.places.length) (i := el8) Try.underlying27 Try.sizeOf53 (ev rfl) (ev rfl) (by omega) (by omega)).mono ?_; rintro _ _ ⟨rfl, rfl⟩
            exact ⟨rfl, Ext.refl _⟩
          refine RW_d _ rfl (fun v => by dsimp only [List.set]; try rfl) (fun u hu hF => ?_) (fun v176 => ?_)
          · have h69_ : v175 = (Pt b29 (el8.toNat * 3)) := hF.1
            clear hF
            refine doesG_un rfl ?_
            obtain rfl := h69_
            refine (does_loadRowG (R := RV3) (k := 3) (xs := ((el1.take q).foldl (addI (nrmN A_m.places el1)) (nrmTo A_m k))) (i := el8.toNat) (e := el9) (ev rfl) Try.isAgg53 Try.sizeOf53 (RowG.ext (RowG.ext hR155 RV3.flat E162) RV3.flat hu) rfl hel9).mono ?_; rintro v u' ⟨hx, ⟨csn1, hv, k0⟩⟩
            exact ⟨⟨csn1, hv, k0⟩, hx⟩
          refine RW_d _ rfl (fun v => by dsimp only [List.set]; try rfl) (fun u hu hF => ?_) (fun v177 => ?_)
          · clear hF
            refine doesG_un rfl ?_
            refine (does_loadAgg (cs := [(Fl r131), (Fl r133), (Fl r135)]) (ev rfl) Try.isAgg53 Try.sizeOf53 (Blk.cells (((hB146.kl E152 (ninS (Nat.ne_of_gt n141) nin0)).ext E162).ext hu)) rfl).mono ?_; rintro _ _ ⟨rfl, rfl⟩
            exact ⟨rfl, Ext.refl _⟩
          refine RW_d _ rfl (fun v => by dsimp only [List.set]; try rfl) (fun u hu hF => ?_) (fun v178 => ?_)
          · have h70_ : ∃ cs_1 : List Value, v176 = (.agg cs_1.toArray) ∧ RV3 w el9 cs_1 := hF.1
            have h71_ : v177 = (.agg #[(Fl r131), (Fl r133), (Fl r135)]) := hF.2.1
            clear hF
            refine doesG_un rfl ?_
            obtain ⟨_, rfl, ⟨r70_1, r70_3, r70_5, rfl, h70_2, h70_4, h70_6⟩⟩ := h70_
            obtain rfl := h71_
            refine (does_call (args := #[(.agg #[(Fl r70_1), (Fl r70_3), (Fl r70_5)]), (.agg #[(Fl r131), (Fl r133), (Fl r135)])]) cal30 (evs rfl) (c_spec_l01Add [(Fl r70_1), (Fl r70_3), (Fl r70_5)] el9 [(Fl r131), (Fl r133), (Fl r135)] (crossF (vsub el5 el3) (vsub el7 el3)) _ ⟨r70_1, r70_3, r70_5, rfl, (by assumption), (by assumption), (by assumption)⟩ ⟨r131, r133, r135, rfl, h132, h134, h136⟩)).mono ?_; rintro v u' ⟨hx, ⟨csn1, hv, k0⟩⟩
            exact ⟨⟨csn1, hv.trans (by simp only [h70_2, h70_4, h70_6]), (by first | exact k0 | simpa only [h70_2, h70_4, h70_6] using RV3.any (w := w) k0)⟩, hx⟩
          refine RW_d _ rfl (fun v => by dsimp only [List.set]; try rfl) (fun u hu hF => ?_) (fun v179 => ?_)
          · have h59_ : v165 = (.slice (some ⟨b29, 0, none⟩) A_m.places.length A_m.places.length) := hF.1
            have h63_ : v169 = (Iv el8) := hF.2.1
            clear hF
            refine doesG_un rfl ?_
            obtain rfl := h59_
            obtain rfl := h63_
            refine (does_indexOwn (b := b29) (n := A_m.places.length) (i := el8) Try.underlying27 Try.sizeOf53 (ev rfl) (ev rfl) (by omega) (by omega)).mono ?_; rintro _ _ ⟨rfl, rfl⟩
            exact ⟨rfl, Ext.refl _⟩
          refine RW_fin ?_; intro w180 E181 hP182
          obtain ⟨⟨⟨⟨⟨⟨⟨⟨⟨⟨⟨⟨⟨⟨⟨-, -⟩, -⟩, -⟩, -⟩, -⟩, -⟩, -⟩, -⟩, -⟩, -⟩, -⟩, -⟩, -⟩, q183⟩, q184⟩ := hP182
          have X185 := Ext.gr X164 E181
          have q183 : ∃ cs_1 : List Value, v178 = (.agg cs_1.toArray) ∧ RV3 w (vadd el9 (crossF (vsub el5 el3) (vsub el7 el3))) cs_1 := q183
          obtain ⟨_, rfl, ⟨r186, r188, r190, rfl, h187, h189, h191⟩⟩ := q183
          have q184 : v179 = (Pt b29 (el8.toNat * 3)) := q184
          obtain rfl := q184
          show wpList _ _ _ _ (fr [_, _, _, _, _, _, _, _, _, _, _, _, _, _, _, _, _, _, _, _, _, _, _, _, _, _, _, _, _, _, _, _, _, _, _, _, _, _, _, _, _, _, _, _, _, _, _, _, _, _, _, _, _, _, _, _, _, _, _, _, _, _, _, _, _, _, _, _, _, _, _, _, _, _, _, _, _, _, _, _, _, _, _, _, _, _, _, _, _, _, _]) _
          refine seqn rfl rfl (does_storeRowG (R := RV3) (k := 3) (xs := ((el1.take q).foldl (addI (nrmN A_m.places el1)) (nrmTo A_m k))) (i := el8.toNat) (u := (.agg #[(Fl r186), (Fl r188), (Fl r190)])) (e := (vadd el9 (crossF (vsub el5 el3) (vsub el7 el3)))) (ev rfl) (ev rfl) Try.sizeOf53 rfl rfl RV3.flat (RowG.ext (RowG.ext hR155 RV3.flat E162) RV3.flat E181) rfl (by first | assumption | omega | (simp only [foldA_len, nrmTo_len, unTo_len, List.length_set, List.length_replicate]; omega) | (simp only [foldA_len, nrmTo_len, unTo_len, List.length_set, List.length_replicate]; done)) ⟨r186, r188, r190, rfl, h187, h189, h191⟩) ?_; rintro _ w194 ⟨rfl, W192, hR193⟩
          have X195 := Below.wr X185 W192 g38
          refine wpList_nil (hK159 _ _ ?_)
          refine wp_region_lit ?_
          refine q_is rfl rfl (does_iarith (p := (q : Int)) (q := 1) (r := (q : Int) + 1) (ev rfl) (ev rfl) (.inl ⟨rfl, (in_i64 (by omega) (by omega)).symm⟩)) (by dsimp only [List.set]; try rfl) ?_
          refine q_is rfl rfl (does_move (u := (Iv ((q : Int) + 1))) (ev rfl)) (by dsimp only [List.set]; try rfl) ?_
          refine wpList_nil ?_
          have hR196 := RowG.cast (ys := ((fun (q : Nat) => (el1.take q).foldl (addI (nrmN A_m.places el1)) (nrmTo A_m k)) (q + 1))) hR193 (by (try dsimp only); rw [fold_take hel8]; exact addI_at hel9 (by simp only [nrmN, vAt, iAt, hel2, hel3, hel4, hel5, hel6, hel7, Option.getD_some]))
          refine ⟨q + 1, ⟨fun t => (([(.agg #[(.slice p5 A_m.places.length q6), (.slice p8 A_m.tris.length q9)]), (Pt b12 0), (.slice none 0 0), (Bo false), (.slice (some ⟨b29, 0, none⟩) A_m.places.length A_m.places.length), (Iv (k : Int)), (.slice p61 el1.length q62), (Pt b89 0), (Pt b137 0), (Iv (q : Int)), Ud, (Bo (meshOk A_m)), (Bo (!(meshOk A_m))), (Pt b12 0), (.slice p5 A_m.places.length q6), (Iv (A_m.places.length : Int)), (.slice (some ⟨b29, 0, none⟩) A_m.places.length A_m.places.length), (Pt b12 1), (.slice p8 A_m.tris.length q9), (Iv (A_m.tris.length : Int)), (Iv (k : Int)), (Bo (icmp .lss (k : Int) (A_m.tris.length : Int))), (Iv (k : Int)), (Pt b12 1), (.slice p8 A_m.tris.length q9), (Iv (k : Int)), (Pt b55 o56), (.slice p61 el1.length q62), v69, v70, v71, v72, v73, v74, (.agg #[(Fl r83), (Fl r85), (Fl r87)]), v105, v106, v107, v108, v109, v110, v111, v112, v113, v114, v115, v116, v117, v118, v119, v120, v121, v122, (.agg #[(Fl r131), (Fl r133), (Fl r135)]), (.slice p61 el1.length q62), (Iv (el1.length : Int)), (Iv ((q : Int) + 1)), (Bo (icmp .lss (q : Int) (el1.length : Int))), (Iv (q : Int)), v165, v166, v167, v168, v169, v170, v171, v172, v173, v174, v175, v176, v177, (.agg #[(Fl r186), (Fl r188), (Fl r190)]), (Pt b29 (el8.toNat * 3)), (Iv ((q : Int) + 1)), (u43 75), Ud, Ud, Ud, Ud, Ud, Ud, Ud, Ud, Ud, Ud, Ud, Ud, Ud, Ud, Ud] : List Value)[t]?).getD undef, ?_, (KpL.more (KpL.ext (KpL.ext E152 E162) E181) (KpL.of_wr W192) (allS (.inl (by simp)) all0)), hR196, ?_⟩, ?_⟩
          · first | rfl | (simp only [Int.natCast_add, Int.natCast_one]; rfl)
          · (try dsimp only); omega
          · (try dsimp only); omega
        have c158' := c158
        (try simp only [icmp, Bool.and_eq_true, Bool.or_eq_true, Bool.and_eq_false_iff, Bool.or_eq_false_iff, Bool.not_eq_true', Bool.not_eq_false', decide_eq_true_eq, decide_eq_false_iff_not, beq_iff_eq, bne_iff_ne, beq_eq_false_iff_ne, bne_eq_false_iff_eq] at c158')
        refine wp_exit ?_
        refine hK52 _ _ ?_
        refine wp_region_lit ?_
        refine q_is rfl rfl (does_iarith (p := (k : Int)) (q := 1) (r := (k : Int) + 1) (ev rfl) (ev rfl) (.inl ⟨rfl, (in_i64 (by omega) (by omega)).symm⟩)) (by dsimp only [List.set]; try rfl) ?_
        refine q_is rfl rfl (does_move (u := (Iv ((k : Int) + 1))) (ev rfl)) (by dsimp only [List.set]; try rfl) ?_
        refine wpList_nil ?_
        have hR197 := RowG.cast (ys := ((fun (k : Nat) => nrmTo A_m k) (k + 1))) hR155 (by (try dsimp only); exact nrmTo_succ hel1 (by omega))
        refine ⟨k + 1, ⟨fun t => (([(.agg #[(.slice p5 A_m.places.length q6), (.slice p8 A_m.tris.length q9)]), (Pt b12 0), (.slice none 0 0), (Bo false), (.slice (some ⟨b29, 0, none⟩) A_m.places.length A_m.places.length), (Iv (k : Int)), (.slice p61 el1.length q62), (Pt b89 0), (Pt b137 0), (u150 9), Ud, (Bo (meshOk A_m)), (Bo (!(meshOk A_m))), (Pt b12 0), (.slice p5 A_m.places.length q6), (Iv (A_m.places.length : Int)), (.slice (some ⟨b29, 0, none⟩) A_m.places.length A_m.places.length), (Pt b12 1), (.slice p8 A_m.tris.length q9), (Iv (A_m.tris.length : Int)), (Iv ((k : Int) + 1)), (Bo (icmp .lss (k : Int) (A_m.tris.length : Int))), (Iv (k : Int)), (Pt b12 1), (.slice p8 A_m.tris.length q9), (Iv (k : Int)), (Pt b55 o56), (.slice p61 el1.length q62), v69, v70, v71, v72, v73, v74, (.agg #[(Fl r83), (Fl r85), (Fl r87)]), v105, v106, v107, v108, v109, v110, v111, v112, v113, v114, v115, v116, v117, v118, v119, v120, v121, v122, (.agg #[(Fl r131), (Fl r133), (Fl r135)]), (.slice p61 el1.length q62), (Iv (el1.length : Int)), (Iv (q : Int)), (Bo (icmp .lss (q : Int) (el1.length : Int))), (u150 58), (u150 59), (u150 60), (u150 61), (u150 62), (u150 63), (u150 64), (u150 65), (u150 66), (u150 67), (u150 68), (u150 69), (u150 70), (u150 71), (u150 72), (u150 73), (u150 74), (Iv ((k : Int) + 1)), Ud, Ud, Ud, Ud, Ud, Ud, Ud, Ud, Ud, Ud, Ud, Ud, Ud, Ud, Ud] : List Value)[t]?).getD undef, ?_, (KpL.more (KpL.more (KpL.ext (KpL.ext (KpL.more (KpL.ext (KpL.ext E45 E66) E78) (KpL.of_wr W96) (allS (.inr (Nat.le_trans E45.size hb90)) all0)) E102) E126) (KpL.of_wr W145) (allS (.inr (Nat.le_trans (KpL.more (KpL.ext (KpL.ext E45 E66) E78) (KpL.of_wr W96) (allS (.inr (Nat.le_trans E45.size hb90)) all0)).size hb138)) all0)) E152 (allS (.inl (by simp)) all0)), hR197, ?_⟩, ?_⟩
        · first | rfl | (simp only [Int.natCast_add, Int.natCast_one]; rfl)
        · omega
        · omega
    have c51' := c51
    (try simp only [icmp, Bool.and_eq_true, Bool.or_eq_true, Bool.and_eq_false_iff, Bool.or_eq_false_iff, Bool.not_eq_true', Bool.not_eq_false', decide_eq_true_eq, decide_eq_false_iff_not, beq_iff_eq, bne_iff_ne, beq_eq_false_iff_ne, bne_eq_false_iff_eq] at c51')
    refine wp_exit ?_
    refine hK41 _ _ ?_
    refine wp_seq_k fun K198 hK198 => ?_
    refine wp_seq_k fun K199 hK199 => ?_
    refine wp_region_lit ?_
    refine q_is rfl rfl (does_move (u := (.slice (some ⟨b29, 0, none⟩) A_m.places.length A_m.places.length)) (ev rfl)) (by dsimp only [List.set]; try rfl) ?_
    refine q_is rfl rfl (does_len_slice Try.underlying27 (ev rfl)) (by dsimp only [List.set]; try rfl) ?_
    refine q_is rfl rfl (does_move (u := (Iv 0)) (ev rfl)) (by dsimp only [List.set]; try rfl) ?_
    refine wpList_nil (hK199 _ _ ?_)
    refine wp_block ?_
    refine loop_ghost (σ := Nat) (fun j a w' => ∃ u200 : Nat → Value, a = fr [(.agg #[(.slice p5 A_m.places.length q6), (.slice p8 A_m.tris.length q9)]), (Pt b12 0), (.slice none 0 0), (Bo false), (.slice (some ⟨b29, 0, none⟩) A_m.places.length A_m.places.length), (u43 5), (u43 6), (u43 7), (u43 8), (u43 9), (u200 10), (Bo (meshOk A_m)), (Bo (!(meshOk A_m))), (Pt b12 0), (.slice p5 A_m.places.length q6), (Iv (A_m.places.length : Int)), (.slice (some ⟨b29, 0, none⟩) A_m.places.length A_m.places.length), (Pt b12 1), (.slice p8 A_m.tris.length q9), (Iv (A_m.tris.length : Int)), (Iv (k : Int)), (Bo (icmp .lss (k : Int) (A_m.tris.length : Int))), (u43 22), (u43 23), (u43 24), (u43 25), (u43 26), (u43 27), (u43 28), (u43 29), (u43 30), (u43 31), (u43 32), (u43 33), (u43 34), (u43 35), (u43 36), (u43 37), (u43 38), (u43 39), (u43 40), (u43 41), (u43 42), (u43 43), (u43 44), (u43 45), (u43 46), (u43 47), (u43 48), (u43 49), (u43 50), (u43 51), (u43 52), (u43 53), (u43 54), (u43 55), (u43 56), (u43 57), (u43 58), (u43 59), (u43 60), (u43 61), (u43 62), (u43 63), (u43 64), (u43 65), (u43 66), (u43 67), (u43 68), (u43 69), (u43 70), (u43 71), (u43 72), (u43 73), (u43 74), (u43 75), (.slice (some ⟨b29, 0, none⟩) A_m.places.length A_m.places.length), (Iv (A_m.places.length : Int)), (Iv (j : Int)), (u200 79), (u200 80), (u200 81), (u200 82), (u200 83), (u200 84), (u200 85), (u200 86), (u200 87), (u200 88), (u200 89), Ud] ∧ KpL [b29] w44 w' ∧ RowG RV3 3 w' b29 (unTo (nrmTo A_m k) j) ∧ (j ≤ A_m.places.length)) (fun j => A_m.places.length - j) 0 ?_ ?_
    · refine ⟨fun t => (([(.agg #[(.slice p5 A_m.places.length q6), (.slice p8 A_m.tris.length q9)]), (Pt b12 0), (.slice none 0 0), (Bo false), (.slice (some ⟨b29, 0, none⟩) A_m.places.length A_m.places.length), (u43 5), (u43 6), (u43 7), (u43 8), (u43 9), Ud, (Bo (meshOk A_m)), (Bo (!(meshOk A_m))), (Pt b12 0), (.slice p5 A_m.places.length q6), (Iv (A_m.places.length : Int)), (.slice (some ⟨b29, 0, none⟩) A_m.places.length A_m.places.length), (Pt b12 1), (.slice p8 A_m.tris.length q9), (Iv (A_m.tris.length : Int)), (Iv (k : Int)), (Bo (icmp .lss (k : Int) (A_m.tris.length : Int))), (u43 22), (u43 23), (u43 24), (u43 25), (u43 26), (u43 27), (u43 28), (u43 29), (u43 30), (u43 31), (u43 32), (u43 33), (u43 34), (u43 35), (u43 36), (u43 37), (u43 38), (u43 39), (u43 40), (u43 41), (u43 42), (u43 43), (u43 44), (u43 45), (u43 46), (u43 47), (u43 48), (u43 49), (u43 50), (u43 51), (u43 52), (u43 53), (u43 54), (u43 55), (u43 56), (u43 57), (u43 58), (u43 59), (u43 60), (u43 61), (u43 62), (u43 63), (u43 64), (u43 65), (u43 66), (u43 67), (u43 68), (u43 69), (u43 70), (u43 71), (u43 72), (u43 73), (u43 74), (u43 75), (.slice (some ⟨b29, 0, none⟩) A_m.places.length A_m.places.length), (Iv (A_m.places.length : Int)), (Iv 0), Ud, Ud, Ud, Ud, Ud, Ud, Ud, Ud, Ud, Ud, Ud, Ud] : List Value)[t]?).getD undef, rfl, KpL.refl _ _, (RowG.cast hR48 (by (try dsimp only); rfl)), ?_⟩
      exact Nat.zero_le _
    · rintro j a w201 ⟨u200, rfl, E202, hRg0, hj⟩
      have X204 := Below.kl X47 E202 (allS g38 all0) (Nat.le_refl _)
      have hR205 := hRg0; clear hRg0
      refine wp_seq_k fun K206 hK206 => ?_
      refine wp_region_lit ?_
      refine q_is rfl rfl (does_icmp (p := (j : Int)) (q := (A_m.places.length : Int)) (.inr (.inr (.inl rfl))) (ev rfl) (ev rfl)) (by dsimp only [List.set]; try rfl) ?_
      refine wpList_nil (hK206 _ _ ?_)
      refine wp_seq_k fun K207 hK207 => ?_
      refine wp_cond_split (t := icmp .lss (j : Int) (A_m.places.length : Int)) (ev rfl) (fun c208 => ?_) (fun c208 => ?_)
      · have c208' := c208
        (try simp only [icmp, Bool.and_eq_true, Bool.or_eq_true, Bool.and_eq_false_iff, Bool.or_eq_false_iff, Bool.not_eq_true', Bool.not_eq_false', decide_eq_true_eq, decide_eq_false_iff_not, beq_iff_eq, bne_iff_ne, beq_eq_false_iff_ne, bne_eq_false_iff_eq] at c208')
        refine wp_skip (hK207 _ _ ?_)
        refine wp_seq_k fun K209 hK209 => ?_
        refine wp_block ?_
        refine wp_seq_k fun K210 hK210 => ?_
        refine wp_region_lit ?_
        refine q_is rfl rfl (does_move (u := (Iv (j : Int))) (ev rfl)) (by dsimp only [List.set]; try rfl) ?_
        refine q_is rfl rfl (does_assign (u := (Iv (j : Int))) (ev rfl)) (by dsimp only [List.set]; try rfl) ?_
        refine wpList_nil (hK210 _ _ ?_)
        refine wp_region_lit ?_
        refine q_is rfl rfl (does_move (u := (.slice (some ⟨b29, 0, none⟩) A_m.places.length A_m.places.length)) (ev rfl)) (by dsimp only [List.set]; try rfl) ?_
        refine q_is rfl rfl (does_move (u := (Iv (j : Int))) (ev rfl)) (by dsimp only [List.set]; try rfl) ?_
        refine q_is rfl rfl (does_move (u := (.slice (some ⟨b29, 0, none⟩) A_m.places.length A_m.places.length)) (ev rfl)) (by dsimp only [List.set]; try rfl) ?_
        refine q_is rfl rfl (does_move (u := (Iv (j : Int))) (ev rfl)) (by dsimp only [List.set]; try rfl) ?_
        refine q_is rfl rfl (does_indexOwn (b := b29) (n := A_m.places.length) (i := (j : Int)) Try.underlying27 Try.sizeOf53 (ev rfl) (ev rfl) (by omega) (by omega)) (by dsimp only [List.set]; try rfl) ?_
        obtain ⟨el10, hel10⟩ : ∃ e, (unTo (nrmTo A_m k) j)[j]? = some e := ⟨_, List.getElem?_eq_getElem (by first | assumption | omega | (simp only [foldA_len, nrmTo_len, unTo_len, List.length_set, List.length_replicate]; omega) | (simp only [foldA_len, nrmTo_len, unTo_len, List.length_set, List.length_replicate]; done))⟩
        refine seqd rfl rfl (does_loadRowG (R := RV3) (k := 3) (xs := (unTo (nrmTo A_m k) j)) (i := j) (e := el10) (ev rfl) Try.isAgg53 Try.sizeOf53 hR205 rfl hel10) ?_; rintro _ w212 ⟨E211, ⟨_, rfl, ⟨r213, r215, r217, rfl, h214, h216, h218⟩⟩⟩
        have X219 := Ext.gr X204 E211
        show wpList _ _ _ _ (fr [_, _, _, _, _, _, _, _, _, _, _, _, _, _, _, _, _, _, _, _, _, _, _, _, _, _, _, _, _, _, _, _, _, _, _, _, _, _, _, _, _, _, _, _, _, _, _, _, _, _, _, _, _, _, _, _, _, _, _, _, _, _, _, _, _, _, _, _, _, _, _, _, _, _, _, _, _, _, _, _, _, _, _, _, _, _, _, _, _, _, _]) _
        refine seqd rfl rfl (does_call (args := #[(.agg #[(Fl r213), (Fl r215), (Fl r217)])]) cal31 (evs rfl) (c_spec_l03Unit [(Fl r213), (Fl r215), (Fl r217)] el10 _ ⟨r213, r215, r217, rfl, h214, h216, h218⟩)) ?_; rintro _ w221 ⟨E220, ⟨_, rfl, ⟨r222, r224, r226, rfl, h223, h225, h227⟩⟩⟩
        have X228 := Ext.gr X219 E220
        show wpList _ _ _ _ (fr [_, _, _, _, _, _, _, _, _, _, _, _, _, _, _, _, _, _, _, _, _, _, _, _, _, _, _, _, _, _, _, _, _, _, _, _, _, _, _, _, _, _, _, _, _, _, _, _, _, _, _, _, _, _, _, _, _, _, _, _, _, _, _, _, _, _, _, _, _, _, _, _, _, _, _, _, _, _, _, _, _, _, _, _, _, _, _, _, _, _, _]) _
        refine q_is rfl rfl (does_indexOwn (b := b29) (n := A_m.places.length) (i := (j : Int)) Try.underlying27 Try.sizeOf53 (ev rfl) (ev rfl) (by omega) (by omega)) (by dsimp only [List.set]; try rfl) ?_
        refine seqn rfl rfl (does_storeRowG (R := RV3) (k := 3) (xs := (unTo (nrmTo A_m k) j)) (i := j) (u := (.agg #[(Fl r222), (Fl r224), (Fl r226)])) (e := (unitF el10)) (ev rfl) (ev rfl) Try.sizeOf53 rfl rfl RV3.flat (RowG.ext (RowG.ext hR205 RV3.flat E211) RV3.flat E220) rfl (by first | assumption | omega | (simp only [foldA_len, nrmTo_len, unTo_len, List.length_set, List.length_replicate]; omega) | (simp only [foldA_len, nrmTo_len, unTo_len, List.length_set, List.length_replicate]; done)) ⟨r222, r224, r226, rfl, h223, h225, h227⟩) ?_; rintro _ w231 ⟨rfl, W229, hR230⟩
        have X232 := Below.wr X228 W229 g38
        refine wpList_nil (hK209 _ _ ?_)
        refine wp_region_lit ?_
        refine q_is rfl rfl (does_iarith (p := (j : Int)) (q := 1) (r := (j : Int) + 1) (ev rfl) (ev rfl) (.inl ⟨rfl, (in_i64 (by omega) (by omega)).symm⟩)) (by dsimp only [List.set]; try rfl) ?_
        refine q_is rfl rfl (does_move (u := (Iv ((j : Int) + 1))) (ev rfl)) (by dsimp only [List.set]; try rfl) ?_
        refine wpList_nil ?_
        have hR233 := RowG.cast (ys := ((fun (j : Nat) => unTo (nrmTo A_m k) j) (j + 1))) hR230 (by (try dsimp only); exact unTo_succ hel10)
        refine ⟨j + 1, ⟨fun t => (([(.agg #[(.slice p5 A_m.places.length q6), (.slice p8 A_m.tris.length q9)]), (Pt b12 0), (.slice none 0 0), (Bo false), (.slice (some ⟨b29, 0, none⟩) A_m.places.length A_m.places.length), (u43 5), (u43 6), (u43 7), (u43 8), (u43 9), (Iv (j : Int)), (Bo (meshOk A_m)), (Bo (!(meshOk A_m))), (Pt b12 0), (.slice p5 A_m.places.length q6), (Iv (A_m.places.length : Int)), (.slice (some ⟨b29, 0, none⟩) A_m.places.length A_m.places.length), (Pt b12 1), (.slice p8 A_m.tris.length q9), (Iv (A_m.tris.length : Int)), (Iv (k : Int)), (Bo (icmp .lss (k : Int) (A_m.tris.length : Int))), (u43 22), (u43 23), (u43 24), (u43 25), (u43 26), (u43 27), (u43 28), (u43 29), (u43 30), (u43 31), (u43 32), (u43 33), (u43 34), (u43 35), (u43 36), (u43 37), (u43 38), (u43 39), (u43 40), (u43 41), (u43 42), (u43 43), (u43 44), (u43 45), (u43 46), (u43 47), (u43 48), (u43 49), (u43 50), (u43 51), (u43 52), (u43 53), (u43 54), (u43 55), (u43 56), (u43 57), (u43 58), (u43 59), (u43 60), (u43 61), (u43 62), (u43 63), (u43 64), (u43 65), (u43 66), (u43 67), (u43 68), (u43 69), (u43 70), (u43 71), (u43 72), (u43 73), (u43 74), (u43 75), (.slice (some ⟨b29, 0, none⟩) A_m.places.length A_m.places.length), (Iv (A_m.places.length : Int)), (Iv ((j : Int) + 1)), (Bo (icmp .lss (j : Int) (A_m.places.length : Int))), (Iv (j : Int)), (.slice (some ⟨b29, 0, none⟩) A_m.places.length A_m.places.length), (Iv (j : Int)), (.slice (some ⟨b29, 0, none⟩) A_m.places.length A_m.places.length), (Iv (j : Int)), (Pt b29 (j * 3)), (.agg #[(Fl r213), (Fl r215), (Fl r217)]), (.agg #[(Fl r222), (Fl r224), (Fl r226)]), (Pt b29 (j * 3)), (Iv ((j : Int) + 1)), Ud] : List Value)[t]?).getD undef, ?_, (KpL.more (KpL.ext (KpL.ext E202 E211) E220) (KpL.of_wr W229) (allS (.inl (by simp)) all0)), hR233, ?_⟩, ?_⟩
        · first | rfl | (simp only [Int.natCast_add, Int.natCast_one]; rfl)
        · (try dsimp only); omega
        · (try dsimp only); omega
      have c208' := c208
      (try simp only [icmp, Bool.and_eq_true, Bool.or_eq_true, Bool.and_eq_false_iff, Bool.or_eq_false_iff, Bool.not_eq_true', Bool.not_eq_false', decide_eq_true_eq, decide_eq_false_iff_not, beq_iff_eq, bne_iff_ne, beq_eq_false_iff_ne, bne_eq_false_iff_eq] at c208')
      refine wp_exit ?_
      refine hK198 _ _ ?_
      refine wp_seq_k fun K234 hK234 => ?_
      refine wp_region_lit ?_
      refine q_is rfl rfl (does_move (u := (.slice (some ⟨b29, 0, none⟩) A_m.places.length A_m.places.length)) (ev rfl)) (by dsimp only [List.set]; try rfl) ?_
      refine q_is rfl rfl (does_assign (u := (.slice (some ⟨b29, 0, none⟩) A_m.places.length A_m.places.length)) (ev rfl)) (by dsimp only [List.set]; try rfl) ?_
      refine q_is rfl rfl (does_assign (u := (Bo true)) (ev rfl)) (by dsimp only [List.set]; try rfl) ?_
      refine wpList_nil (hK234 _ _ ?_)
      refine wp_ret ?_
      refine ret_val (v := (.tuple #[(.slice (some ⟨b29, 0, none⟩) A_m.places.length A_m.places.length), (Bo true)])) (res_TT rfl (slot rfl) (slot rfl)) X204 ?_
      have x235 : (meshOk A_m) = true := by first | exact hmf | exact hmt | (rw [nrmL_f hmf] <;> rfl) | (rw [nrmL_t hmt hk (by omega) hj (by omega)] <;> first | rfl | assumption)
      have x236 : (unTo (nrmTo A_m k) j) = (nrmL A_m) := by first | exact hmf | exact hmt | (rw [nrmL_f hmf] <;> rfl) | (rw [nrmL_t hmt hk (by omega) hj (by omega)] <;> first | rfl | assumption)
      exact ⟨(.slice (some ⟨b29, 0, none⟩) A_m.places.length A_m.places.length), (by first | with_reducible rfl | rw [x235] | rfl), (Hang.castL (RowG.hang hR205 RV3.flat (by first | assumption | omega | (simp only [foldA_len, nrmTo_len, unTo_len, List.length_set, List.length_replicate]; omega) | (simp only [foldA_len, nrmTo_len, unTo_len, List.length_set, List.length_replicate]; done)) g38 (Nat.le_refl _) (by omega) (by decide)) x236)⟩

/- slices.IndexFunc[[][]int64,[]int64] -/
theorem c_slices_IndexFunc_SS_int64_int64 (xs : Value) (L_xs : List (List Int)) (f : Value) (pr_f : List Int → Bool) (w : World) (hv_xs : Sl (RS RI 1) 1 w xs L_xs) (hv_f : ∃ fi fst cap, f = .func (.func fi) fst cap ∧ (∀ args w, (callFunc fi args).run Try.prog w = .ok (.enter fi args) w) ∧ ∀ (y0 : Value) (X0 : List Int) u, Ext w u → Sl RI 1 u y0 X0 → Gives Try.prog fi (fst ++ #[y0] ++ cap) u (fun v _ => v = .bool (pr_f X0))) : Gives Try.prog 56 #[xs, f] w (fun v w' => v = (Iv (findI pr_f L_xs))) := by
  have hlen_xs := Sl.len hv_xs; obtain ⟨p_xs, q_xs, rfl⟩ := Sl.shape hv_xs
  obtain ⟨f_f, s_f, c_f, rfl, hcal_f, hg_f⟩ := hv_f
  refine enter [(.slice p_xs L_xs.length q_xs), (.func (.func f_f) s_f c_f), Ud, Ud, Ud, Ud, Ud, Ud, Ud, Ud, Ud, Ud, Ud, Ud, Ud, Ud, Ud, Ud, Ud] Try.func56 rfl Try.ntmps56 rfl ?_
  refine wp_seq_k fun K1 hK1 => ?_
  refine wp_region_lit ?_
  refine q_is (l' := [(.slice p_xs L_xs.length q_xs), (.func (.func f_f) s_f c_f), Ud, Ud, (Iv 0), Ud, Ud, Ud, Ud, Ud, Ud, Ud, Ud, Ud, Ud, Ud, Ud, Ud, Ud]) rfl rfl (does_assign (u := (Iv 0)) (ev rfl)) rfl ?_
  refine wpList_nil (hK1 _ _ ?_)
  refine wp_seq_k fun K2 hK2 => ?_
  refine wp_seq_k fun K3 hK3 => ?_
  refine wp_region_lit ?_
  refine q_is (l' := [(.slice p_xs L_xs.length q_xs), (.func (.func f_f) s_f c_f), Ud, Ud, (Iv 0), Ud, (.slice p_xs L_xs.length q_xs), Ud, Ud, Ud, Ud, Ud, Ud, Ud, Ud, Ud, Ud, Ud, Ud]) rfl rfl (does_move (u := (.slice p_xs L_xs.length q_xs)) (ev rfl)) rfl ?_
  refine q_is (l' := [(.slice p_xs L_xs.length q_xs), (.func (.func f_f) s_f c_f), Ud, Ud, (Iv 0), Ud, (.slice p_xs L_xs.length q_xs), (Iv (L_xs.length : Int)), Ud, Ud, Ud, Ud, Ud, Ud, Ud, Ud, Ud, Ud, Ud]) rfl rfl (does_len_slice Try.underlying23 (ev rfl)) rfl ?_
  refine q_is (l' := [(.slice p_xs L_xs.length q_xs), (.func (.func f_f) s_f c_f), Ud, Ud, (Iv 0), Ud, (.slice p_xs L_xs.length q_xs), (Iv (L_xs.length : Int)), (Iv 0), Ud, Ud, Ud, Ud, Ud, Ud, Ud, Ud, Ud, Ud]) rfl rfl (does_move (u := (Iv 0)) (ev rfl)) rfl ?_
  refine wpList_nil (hK3 _ _ ?_)
  refine wp_block ?_
  refine loop_ghost (σ := Nat) (fun k a w' => ∃ u4 : Nat → Value, a = fr [(.slice p_xs L_xs.length q_xs), (.func (.func f_f) s_f c_f), Ud, Ud, (u4 4), (u4 5), (.slice p_xs L_xs.length q_xs), (Iv (L_xs.length : Int)), (Iv (k : Int)), (u4 9), (u4 10), (u4 11), (u4 12), (u4 13), (u4 14), (u4 15), (u4 16), (u4 17), (u4 18)] ∧ Ext w w' ∧ (k ≤ L_xs.length ∧ NoneTo pr_f L_xs k)) (fun k => L_xs.length - k) 0 ?_ ?_
  · refine ⟨fun t => (([(.slice p_xs L_xs.length q_xs), (.func (.func f_f) s_f c_f), Ud, Ud, (Iv 0), Ud, (.slice p_xs L_xs.length q_xs), (Iv (L_xs.length : Int)), (Iv 0), Ud, Ud, Ud, Ud, Ud, Ud, Ud, Ud, Ud, Ud] : List Value)[t]?).getD undef, rfl, Ext.refl _, ?_⟩
    exact ⟨Nat.zero_le _, NoneTo.zero⟩
  · rintro k a w5 ⟨u4, rfl, E6, ⟨hk, hno⟩⟩
    have X8 := Ext.gr (Ext.refl w) E6
    refine wp_seq_k fun K9 hK9 => ?_
    refine wp_region_lit ?_
    refine q_is (l' := [(.slice p_xs L_xs.length q_xs), (.func (.func f_f) s_f c_f), Ud, Ud, (u4 4), (u4 5), (.slice p_xs L_xs.length q_xs), (Iv (L_xs.length : Int)), (Iv (k : Int)), (Bo (icmp .lss (k : Int) (L_xs.length : Int))), (u4 10), (u4 11), (u4 12), (u4 13), (u4 14), (u4 15), (u4 16), (u4 17), (u4 18)]) rfl rfl (does_icmp (p := (k : Int)) (q := (L_xs.length : Int)) (.inr (.inr (.inl rfl))) (ev rfl) (ev rfl)) rfl ?_
    refine wpList_nil (hK9 _ _ ?_)
    refine wp_seq_k fun K10 hK10 => ?_
    refine wp_cond_split (t := icmp .lss (k : Int) (L_xs.length : Int)) (ev rfl) (fun c11 => ?_) (fun c11 => ?_)
    · have c11' := c11
      (try simp only [icmp, Bool.and_eq_true, Bool.or_eq_true, Bool.and_eq_false_iff, Bool.or_eq_false_iff, Bool.not_eq_true', Bool.not_eq_false', decide_eq_true_eq, decide_eq_false_iff_not, beq_iff_eq, bne_iff_ne, beq_eq_false_iff_ne, bne_eq_false_iff_eq] at c11')
      refine wp_skip (hK10 _ _ ?_)
      refine wp_seq_k fun K12 hK12 => ?_
      refine wp_block ?_
      refine wp_seq_k fun K13 hK13 => ?_
      refine wp_region_lit ?_
      refine q_is (l' := [(.slice p_xs L_xs.length q_xs), (.func (.func f_f) s_f c_f), Ud, Ud, (u4 4), (u4 5), (.slice p_xs L_xs.length q_xs), (Iv (L_xs.length : Int)), (Iv (k : Int)), (Bo (icmp .lss (k : Int) (L_xs.length : Int))), (Iv (k : Int)), (u4 11), (u4 12), (u4 13), (u4 14), (u4 15), (u4 16), (u4 17), (u4 18)]) rfl rfl (does_move (u := (Iv (k : Int))) (ev rfl)) rfl ?_
      refine q_is (l' := [(.slice p_xs L_xs.length q_xs), (.func (.func f_f) s_f c_f), Ud, Ud, (u4 4), (Iv (k : Int)), (.slice p_xs L_xs.length q_xs), (Iv (L_xs.length : Int)), (Iv (k : Int)), (Bo (icmp .lss (k : Int) (L_xs.length : Int))), (Iv (k : Int)), (u4 11), (u4 12), (u4 13), (u4 14), (u4 15), (u4 16), (u4 17), (u4 18)]) rfl rfl (does_assign (u := (Iv (k : Int))) (ev rfl)) rfl ?_
      refine wpList_nil (hK13 _ _ ?_)
      refine wp_seq_k fun K14 hK14 => ?_
      refine wp_region_lit ?_
      refine q_is (l' := [(.slice p_xs L_xs.length q_xs), (.func (.func f_f) s_f c_f), Ud, Ud, (u4 4), (Iv (k : Int)), (.slice p_xs L_xs.length q_xs), (Iv (L_xs.length : Int)), (Iv (k : Int)), (Bo (icmp .lss (k : Int) (L_xs.length : Int))), (Iv (k : Int)), (.func (.func f_f) s_f c_f), (u4 12), (u4 13), (u4 14), (u4 15), (u4 16), (u4 17), (u4 18)]) rfl rfl (does_move (u := (.func (.func f_f) s_f c_f)) (ev rfl)) rfl ?_
      refine q_is (l' := [(.slice p_xs L_xs.length q_xs), (.func (.func f_f) s_f c_f), Ud, Ud, (u4 4), (Iv (k : Int)), (.slice p_xs L_xs.length q_xs), (Iv (L_xs.length : Int)), (Iv (k : Int)), (Bo (icmp .lss (k : Int) (L_xs.length : Int))), (Iv (k : Int)), (.func (.func f_f) s_f c_f), (.slice p_xs L_xs.length q_xs), (u4 13), (u4 14), (u4 15), (u4 16), (u4 17), (u4 18)]) rfl rfl (does_move (u := (.slice p_xs L_xs.length q_xs)) (ev rfl)) rfl ?_
      refine q_is (l' := [(.slice p_xs L_xs.length q_xs), (.func (.func f_f) s_f c_f), Ud, Ud, (u4 4), (Iv (k : Int)), (.slice p_xs L_xs.length q_xs), (Iv (L_xs.length : Int)), (Iv (k : Int)), (Bo (icmp .lss (k : Int) (L_xs.length : Int))), (Iv (k : Int)), (.func (.func f_f) s_f c_f), (.slice p_xs L_xs.length q_xs), (Iv (k : Int)), (u4 14), (u4 15), (u4 16), (u4 17), (u4 18)]) rfl rfl (does_move (u := (Iv (k : Int))) (ev rfl)) rfl ?_
      obtain ⟨el1, hel1⟩ : ∃ e, L_xs[k]? = some e := ⟨_, List.getElem?_eq_getElem (by omega)⟩
      refine seqd rfl rfl (does_indexSl (R := (RS RI 1)) (i := (k : Int)) (xs := L_xs) (e := el1) Try.underlying23 Try.sizeOf44 (ev rfl) (ev rfl) (Sl.ext hv_xs (RS.mono RI.mono) X8) (by omega) hel1) ?_; rintro _ w5 ⟨b15, o16, _, rfl, hc18, ⟨y19, rfl, h20⟩, rfl⟩
      have hs23 := h20; have hs23l := Sl.len h20; obtain ⟨p21, q22, rfl⟩ := Sl.shape h20
      show wpList _ _ _ _ (fr [(.slice p_xs L_xs.length q_xs), (.func (.func f_f) s_f c_f), Ud, Ud, (u4 4), (Iv (k : Int)), (.slice p_xs L_xs.length q_xs), (Iv (L_xs.length : Int)), (Iv (k : Int)), (Bo (icmp .lss (k : Int) (L_xs.length : Int))), (Iv (k : Int)), (.func (.func f_f) s_f c_f), (.slice p_xs L_xs.length q_xs), (Iv (k : Int)), (Pt b15 o16), (u4 15), (u4 16), (u4 17), (u4 18)]) _
      refine q_is (l' := [(.slice p_xs L_xs.length q_xs), (.func (.func f_f) s_f c_f), Ud, Ud, (u4 4), (Iv (k : Int)), (.slice p_xs L_xs.length q_xs), (Iv (L_xs.length : Int)), (Iv (k : Int)), (Bo (icmp .lss (k : Int) (L_xs.length : Int))), (Iv (k : Int)), (.func (.func f_f) s_f c_f), (.slice p_xs L_xs.length q_xs), (Iv (k : Int)), (Pt b15 o16), (.slice p21 el1.length q22), (u4 16), (u4 17), (u4 18)]) rfl rfl (does_load (u := (.slice p21 el1.length q22)) (ev rfl) Try.isAgg44 (Cells.at hc18 0 rfl)) rfl ?_
      refine seqd rfl rfl (does_callf (args := #[(.slice p21 el1.length q22)]) (ev rfl) hcal_f (evs rfl) (hg_f (.slice p21 el1.length q22) el1 _ X8 hs23)) ?_; rintro _ w25 ⟨E24, rfl⟩
      have X26 := Ext.gr X8 E24
      show wpList _ _ _ _ (fr [(.slice p_xs L_xs.length q_xs), (.func (.func f_f) s_f c_f), Ud, Ud, (u4 4), (Iv (k : Int)), (.slice p_xs L_xs.length q_xs), (Iv (L_xs.length : Int)), (Iv (k : Int)), (Bo (icmp .lss (k : Int) (L_xs.length : Int))), (Iv (k : Int)), (.func (.func f_f) s_f c_f), (.slice p_xs L_xs.length q_xs), (Iv (k : Int)), (Pt b15 o16), (.slice p21 el1.length q22), (Bo (pr_f el1)), (u4 17), (u4 18)]) _
      refine wpList_nil (hK14 _ _ ?_)
      refine wp_cond_split (t := pr_f el1) (ev rfl) (fun c27 => ?_) (fun c27 => ?_)
      · have c27' := c27
        refine wp_seq_k fun K28 hK28 => ?_
        refine wp_region_lit ?_
        refine q_is (l' := [(.slice p_xs L_xs.length q_xs), (.func (.func f_f) s_f c_f), Ud, Ud, (u4 4), (Iv (k : Int)), (.slice p_xs L_xs.length q_xs), (Iv (L_xs.length : Int)), (Iv (k : Int)), (Bo (icmp .lss (k : Int) (L_xs.length : Int))), (Iv (k : Int)), (.func (.func f_f) s_f c_f), (.slice p_xs L_xs.length q_xs), (Iv (k : Int)), (Pt b15 o16), (.slice p21 el1.length q22), (Bo (pr_f el1)), (Iv (k : Int)), (u4 18)]) rfl rfl (does_move (u := (Iv (k : Int))) (ev rfl)) rfl ?_
        refine q_is (l' := [(.slice p_xs L_xs.length q_xs), (.func (.func f_f) s_f c_f), Ud, Ud, (Iv (k : Int)), (Iv (k : Int)), (.slice p_xs L_xs.length q_xs), (Iv (L_xs.length : Int)), (Iv (k : Int)), (Bo (icmp .lss (k : Int) (L_xs.length : Int))), (Iv (k : Int)), (.func (.func f_f) s_f c_f), (.slice p_xs L_xs.length q_xs), (Iv (k : Int)), (Pt b15 o16), (.slice p21 el1.length q22), (Bo (pr_f el1)), (Iv (k : Int)), (u4 18)]) rfl rfl (does_assign (u := (Iv (k : Int))) (ev rfl)) rfl ?_
        refine wpList_nil (hK28 _ _ ?_)
        refine wp_ret ?_
        dsimp only [Exit.then, Exit.inBlock]
        refine ret_val (v := (Iv (k : Int))) (res_T rfl (slot rfl)) X26 ?_
        try simp only [hel1] at c11 c27
        have x29 : (findI pr_f L_xs : Int) = (k : Int) := by first | exact findI_at hno (by assumption) (by simp_all) | exact findI_none hno (by omega)
        exact (by first | with_reducible rfl | rw [x29] | rfl)
      have c27' := c27
      refine wp_skip (hK12 _ _ ?_)
      refine wp_region_lit ?_
      refine q_is (l' := [(.slice p_xs L_xs.length q_xs), (.func (.func f_f) s_f c_f), Ud, Ud, (u4 4), (Iv (k : Int)), (.slice p_xs L_xs.length q_xs), (Iv (L_xs.length : Int)), (Iv (k : Int)), (Bo (icmp .lss (k : Int) (L_xs.length : Int))), (Iv (k : Int)), (.func (.func f_f) s_f c_f), (.slice p_xs L_xs.length q_xs), (Iv (k : Int)), (Pt b15 o16), (.slice p21 el1.length q22), (Bo (pr_f el1)), (u4 17), (Iv ((k : Int) + 1))]) rfl rfl (does_iarith (p := (k : Int)) (q := 1) (r := (k : Int) + 1) (ev rfl) (ev rfl) (.inl ⟨rfl, (in_i64 (by omega) (by omega)).symm⟩)) rfl ?_
      refine q_is (l' := [(.slice p_xs L_xs.length q_xs), (.func (.func f_f) s_f c_f), Ud, Ud, (u4 4), (Iv (k : Int)), (.slice p_xs L_xs.length q_xs), (Iv (L_xs.length : Int)), (Iv ((k : Int) + 1)), (Bo (icmp .lss (k : Int) (L_xs.length : Int))), (Iv (k : Int)), (.func (.func f_f) s_f c_f), (.slice p_xs L_xs.length q_xs), (Iv (k : Int)), (Pt b15 o16), (.slice p21 el1.length q22), (Bo (pr_f el1)), (u4 17), (Iv ((k : Int) + 1))]) rfl rfl (does_move (u := (Iv ((k : Int) + 1))) (ev rfl)) rfl ?_
      refine wpList_nil ?_
      refine ⟨k + 1, ⟨fun t => (([(.slice p_xs L_xs.length q_xs), (.func (.func f_f) s_f c_f), Ud, Ud, (u4 4), (Iv (k : Int)), (.slice p_xs L_xs.length q_xs), (Iv (L_xs.length : Int)), (Iv ((k : Int) + 1)), (Bo (icmp .lss (k : Int) (L_xs.length : Int))), (Iv (k : Int)), (.func (.func f_f) s_f c_f), (.slice p_xs L_xs.length q_xs), (Iv (k : Int)), (Pt b15 o16), (.slice p21 el1.length q22), (Bo (pr_f el1)), (u4 17), (Iv ((k : Int) + 1))] : List Value)[t]?).getD undef, ?_, (Ext.gr E6 E24), ?_⟩, ?_⟩
      · first | rfl | (simp only [Int.natCast_add, Int.natCast_one]; rfl)
      · exact ⟨by omega, NoneTo.step hno (by assumption) (by simp_all)⟩
      · omega
    have c11' := c11
    (try simp only [icmp, Bool.and_eq_true, Bool.or_eq_true, Bool.and_eq_false_iff, Bool.or_eq_false_iff, Bool.not_eq_true', Bool.not_eq_false', decide_eq_true_eq, decide_eq_false_iff_not, beq_iff_eq, bne_iff_ne, beq_eq_false_iff_ne, bne_eq_false_iff_eq] at c11')
    refine wp_exit ?_
    refine hK2 _ _ ?_
    refine wp_seq_k fun K30 hK30 => ?_
    refine wp_region_lit ?_
    refine q_is (l' := [(.slice p_xs L_xs.length q_xs), (.func (.func f_f) s_f c_f), Ud, Ud, (Iv (-1)), (u4 5), (.slice p_xs L_xs.length q_xs), (Iv (L_xs.length : Int)), (Iv (k : Int)), (Bo (icmp .lss (k : Int) (L_xs.length : Int))), (u4 10), (u4 11), (u4 12), (u4 13), (u4 14), (u4 15), (u4 16), (u4 17), (u4 18)]) rfl rfl (does_assign (u := (Iv (-1))) (ev rfl)) rfl ?_
    refine wpList_nil (hK30 _ _ ?_)
    refine wp_ret ?_
    refine ret_val (v := (Iv (-1))) (res_T rfl (slot rfl)) X8 ?_
    have x31 : (findI pr_f L_xs : Int) = (-1) := by first | exact findI_at hno (by assumption) (by simp_all) | exact findI_none hno (by omega)
    exact (by first | with_reducible rfl | rw [x31] | rfl)

/- slices.ContainsFunc[[][]int64,[]int64] -/
theorem c_slices_ContainsFunc_SS_int64_int64 (xs : Value) (L_xs : List (List Int)) (f : Value) (pr_f : List Int → Bool) (w : World) (hv_xs : Sl (RS RI 1) 1 w xs L_xs) (hv_f : ∃ fi fst cap, f = .func (.func fi) fst cap ∧ (∀ args w, (callFunc fi args).run Try.prog w = .ok (.enter fi args) w) ∧ ∀ (y0 : Value) (X0 : List Int) u, Ext w u → Sl RI 1 u y0 X0 → Gives Try.prog fi (fst ++ #[y0] ++ cap) u (fun v _ => v = .bool (pr_f X0))) : Gives Try.prog 41 #[xs, f] w (fun v w' => v = (Bo (L_xs.any pr_f))) := by
  have hlen_xs := Sl.len hv_xs; obtain ⟨p_xs, q_xs, rfl⟩ := Sl.shape hv_xs
  obtain ⟨f_f, s_f, c_f, rfl, hcal_f, hg_f⟩ := hv_f
  refine enter [(.slice p_xs L_xs.length q_xs), (.func (.func f_f) s_f c_f), Ud, Ud, Ud, Ud, Ud, Ud, Ud] Try.func41 rfl Try.ntmps41 rfl ?_
  refine wp_seq_k fun K1 hK1 => ?_
  refine wp_region_lit ?_
  refine q_is (l' := [(.slice p_xs L_xs.length q_xs), (.func (.func f_f) s_f c_f), Ud, Ud, (Bo false), Ud, Ud, Ud, Ud]) rfl rfl (does_assign (u := (Bo false)) (ev rfl)) rfl ?_
  refine wpList_nil (hK1 _ _ ?_)
  refine wp_seq_k fun K2 hK2 => ?_
  refine wp_region_lit ?_
  refine q_is (l' := [(.slice p_xs L_xs.length q_xs), (.func (.func f_f) s_f c_f), Ud, Ud, (Bo false), (.slice p_xs L_xs.length q_xs), Ud, Ud, Ud]) rfl rfl (does_move (u := (.slice p_xs L_xs.length q_xs)) (ev rfl)) rfl ?_
  refine q_is (l' := [(.slice p_xs L_xs.length q_xs), (.func (.func f_f) s_f c_f), Ud, Ud, (Bo false), (.slice p_xs L_xs.length q_xs), (.func (.func f_f) s_f c_f), Ud, Ud]) rfl rfl (does_move (u := (.func (.func f_f) s_f c_f)) (ev rfl)) rfl ?_
  refine seqd rfl rfl (does_call (args := #[(.slice p_xs L_xs.length q_xs), (.func (.func f_f) s_f c_f)]) cal56 (evs rfl) (c_slices_IndexFunc_SS_int64_int64 (.slice p_xs L_xs.length q_xs) L_xs (.func (.func f_f) s_f c_f) pr_f _ hv_xs ⟨_, _, _, rfl, hcal_f, fun y0 X0 u hu' ha0 => hg_f y0 X0 u (Ext.gr (Ext.refl w) hu') ha0⟩)) ?_; rintro _ w4 ⟨E3, rfl⟩
  have X5 := Ext.gr (Ext.refl w) E3
  show wpList _ _ _ _ (fr [(.slice p_xs L_xs.length q_xs), (.func (.func f_f) s_f c_f), Ud, Ud, (Bo false), (.slice p_xs L_xs.length q_xs), (.func (.func f_f) s_f c_f), (Iv (findI pr_f L_xs)), Ud]) _
  refine q_is (l' := [(.slice p_xs L_xs.length q_xs), (.func (.func f_f) s_f c_f), Ud, Ud, (Bo false), (.slice p_xs L_xs.length q_xs), (.func (.func f_f) s_f c_f), (Iv (findI pr_f L_xs)), (Bo (icmp .geq (findI pr_f L_xs) 0))]) rfl rfl (does_icmp (p := findI pr_f L_xs) (q := 0) (.inr (.inr (.inr (.inr (.inr rfl))))) (ev rfl) (ev rfl)) rfl ?_
  refine q_is (l' := [(.slice p_xs L_xs.length q_xs), (.func (.func f_f) s_f c_f), Ud, Ud, (Bo (icmp .geq (findI pr_f L_xs) 0)), (.slice p_xs L_xs.length q_xs), (.func (.func f_f) s_f c_f), (Iv (findI pr_f L_xs)), (Bo (icmp .geq (findI pr_f L_xs) 0))]) rfl rfl (does_assign (u := (Bo (icmp .geq (findI pr_f L_xs) 0))) (ev rfl)) rfl ?_
  refine wpList_nil (hK2 _ _ ?_)
  refine wp_ret ?_
  refine ret_val (v := (Bo (icmp .geq (findI pr_f L_xs) 0))) (res_T rfl (slot rfl)) X5 ?_
  have x6 : (L_xs.any pr_f) = (icmp .geq (findI pr_f L_xs) 0) := by first | with_reducible rfl | (simp only [findI_any]; done) | (simp [findI_any]; done) | rfl
  exact (by first | with_reducible rfl | rw [x6] | rfl)

/- slices.IndexFunc[[]int64,int64] -/
theorem c_slices_IndexFunc_int64_int64 (xs : Value) (L_xs : List Int) (f : Value) (pr_f : Int → Bool) (w : World) (hv_xs : Sl RI 1 w xs L_xs) (hv_f : ∃ fi fst cap, f = .func (.func fi) fst cap ∧ (∀ args w, (callFunc fi args).run Try.prog w = .ok (.enter fi args) w) ∧ ∀ (n0 : Int) u, Ext w u → Gives Try.prog fi (fst ++ #[.int .i64 n0] ++ cap) u (fun v _ => v = .bool (pr_f n0))) : Gives Try.prog 67 #[xs, f] w (fun v w' => v = (Iv (findI pr_f L_xs))) := by
  have hlen_xs := Sl.len hv_xs; obtain ⟨p_xs, q_xs, rfl⟩ := Sl.shape hv_xs
  obtain ⟨f_f, s_f, c_f, rfl, hcal_f, hg_f⟩ := hv_f
  refine enter [(.slice p_xs L_xs.length q_xs), (.func (.func f_f) s_f c_f), Ud, Ud, Ud, Ud, Ud, Ud, Ud, Ud, Ud, Ud, Ud, Ud, Ud, Ud, Ud, Ud, Ud] Try.func67 rfl Try.ntmps67 rfl ?_
  refine wp_seq_k fun K1 hK1 => ?_
  refine wp_region_lit ?_
  refine q_is (l' := [(.slice p_xs L_xs.length q_xs), (.func (.func f_f) s_f c_f), Ud, Ud, (Iv 0), Ud, Ud, Ud, Ud, Ud, Ud, Ud, Ud, Ud, Ud, Ud, Ud, Ud, Ud]) rfl rfl (does_assign (u := (Iv 0)) (ev rfl)) rfl ?_
  refine wpList_nil (hK1 _ _ ?_)
  refine wp_seq_k fun K2 hK2 => ?_
  refine wp_seq_k fun K3 hK3 => ?_
  refine wp_region_lit ?_
  refine q_is (l' := [(.slice p_xs L_xs.length q_xs), (.func (.func f_f) s_f c_f), Ud, Ud, (Iv 0), Ud, (.slice p_xs L_xs.length q_xs), Ud, Ud, Ud, Ud, Ud, Ud, Ud, Ud, Ud, Ud, Ud, Ud]) rfl rfl (does_move (u := (.slice p_xs L_xs.length q_xs)) (ev rfl)) rfl ?_
  refine q_is (l' := [(.slice p_xs L_xs.length q_xs), (.func (.func f_f) s_f c_f), Ud, Ud, (Iv 0), Ud, (.slice p_xs L_xs.length q_xs), (Iv (L_xs.length : Int)), Ud, Ud, Ud, Ud, Ud, Ud, Ud, Ud, Ud, Ud, Ud]) rfl rfl (does_len_slice Try.underlying44 (ev rfl)) rfl ?_
  refine q_is (l' := [(.slice p_xs L_xs.length q_xs), (.func (.func f_f) s_f c_f), Ud, Ud, (Iv 0), Ud, (.slice p_xs L_xs.length q_xs), (Iv (L_xs.length : Int)), (Iv 0), Ud, Ud, Ud, Ud, Ud, Ud, Ud, Ud, Ud, Ud]) rfl rfl (does_move (u := (Iv 0)) (ev rfl)) rfl ?_
  refine wpList_nil (hK3 _ _ ?_)
  refine wp_block ?_
  refine loop_ghost (σ := Nat) (fun k a w' => ∃ u4 : Nat → Value, a = fr [(.slice p_xs L_xs.length q_xs), (.func (.func f_f) s_f c_f), Ud, Ud, (u4 4), (u4 5), (.slice p_xs L_xs.length q_xs), (Iv (L_xs.length : Int)), (Iv (k : Int)), (u4 9), (u4 10), (u4 11), (u4 12), (u4 13), (u4 14), (u4 15), (u4 16), (u4 17), (u4 18)] ∧ Ext w w' ∧ (k ≤ L_xs.length ∧ NoneTo pr_f L_xs k)) (fun k => L_xs.length - k) 0 ?_ ?_
  · refine ⟨fun t => (([(.slice p_xs L_xs.length q_xs), (.func (.func f_f) s_f c_f), Ud, Ud, (Iv 0), Ud, (.slice p_xs L_xs.length q_xs), (Iv (L_xs.length : Int)), (Iv 0), Ud, Ud, Ud, Ud, Ud, Ud, Ud, Ud, Ud, Ud] : List Value)[t]?).getD undef, rfl, Ext.refl _, ?_⟩
    exact ⟨Nat.zero_le _, NoneTo.zero⟩
  · rintro k a w5 ⟨u4, rfl, E6, ⟨hk, hno⟩⟩
    have X8 := Ext.gr (Ext.refl w) E6
    refine wp_seq_k fun K9 hK9 => ?_
    refine wp_region_lit ?_
    refine q_is (l' := [(.slice p_xs L_xs.length q_xs), (.func (.func f_f) s_f c_f), Ud, Ud, (u4 4), (u4 5), (.slice p_xs L_xs.length q_xs), (Iv (L_xs.length : Int)), (Iv (k : Int)), (Bo (icmp .lss (k : Int) (L_xs.length : Int))), (u4 10), (u4 11), (u4 12), (u4 13), (u4 14), (u4 15), (u4 16), (u4 17), (u4 18)]) rfl rfl (does_icmp (p := (k : Int)) (q := (L_xs.length : Int)) (.inr (.inr (.inl rfl))) (ev rfl) (ev rfl)) rfl ?_
    refine wpList_nil (hK9 _ _ ?_)
    refine wp_seq_k fun K10 hK10 => ?_
    refine wp_cond_split (t := icmp .lss (k : Int) (L_xs.length : Int)) (ev rfl) (fun c11 => ?_) (fun c11 => ?_)
    · have c11' := c11
      (try simp only [icmp, Bool.and_eq_true, Bool.or_eq_true, Bool.and_eq_false_iff, Bool.or_eq_false_iff, Bool.not_eq_true', Bool.not_eq_false', decide_eq_true_eq, decide_eq_false_iff_not, beq_iff_eq, bne_iff_ne, beq_eq_false_iff_ne, bne_eq_false_iff_eq] at c11')
      refine wp_skip (hK10 _ _ ?_)
      refine wp_seq_k fun K12 hK12 => ?_
      refine wp_block ?_
      refine wp_seq_k fun K13 hK13 => ?_
      refine wp_region_lit ?_
      refine q_is (l' := [(.slice p_xs L_xs.length q_xs), (.func (.func f_f) s_f c_f), Ud, Ud, (u4 4), (u4 5), (.slice p_xs L_xs.length q_xs), (Iv (L_xs.length : Int)), (Iv (k : Int)), (Bo (icmp .lss (k : Int) (L_xs.length : Int))), (Iv (k : Int)), (u4 11), (u4 12), (u4 13), (u4 14), (u4 15), (u4 16), (u4 17), (u4 18)]) rfl rfl (does_move (u := (Iv (k : Int))) (ev rfl)) rfl ?_
      refine q_is (l' := [(.slice p_xs L_xs.length q_xs), (.func (.func f_f) s_f c_f), Ud, Ud, (u4 4), (Iv (k : Int)), (.slice p_xs L_xs.length q_xs), (Iv (L_xs.length : Int)), (Iv (k : Int)), (Bo (icmp .lss (k : Int) (L_xs.length : Int))), (Iv (k : Int)), (u4 11), (u4 12), (u4 13), (u4 14), (u4 15), (u4 16), (u4 17), (u4 18)]) rfl rfl (does_assign (u := (Iv (k : Int))) (ev rfl)) rfl ?_
      refine wpList_nil (hK13 _ _ ?_)
      refine wp_seq_k fun K14 hK14 => ?_
      refine wp_region_lit ?_
      refine q_is (l' := [(.slice p_xs L_xs.length q_xs), (.func (.func f_f) s_f c_f), Ud, Ud, (u4 4), (Iv (k : Int)), (.slice p_xs L_xs.length q_xs), (Iv (L_xs.length : Int)), (Iv (k : Int)), (Bo (icmp .lss (k : Int) (L_xs.length : Int))), (Iv (k : Int)), (.func (.func f_f) s_f c_f), (u4 12), (u4 13), (u4 14), (u4 15), (u4 16), (u4 17), (u4 18)]) rfl rfl (does_move (u := (.func (.func f_f) s_f c_f)) (ev rfl)) rfl ?_
      refine q_is (l' := [(.slice p_xs L_xs.length q_xs), (.func (.func f_f) s_f c_f), Ud, Ud, (u4 4), (Iv (k : Int)), (.slice p_xs L_xs.length q_xs), (Iv (L_xs.length : Int)), (Iv (k : Int)), (Bo (icmp .lss (k : Int) (L_xs.length : Int))), (Iv (k : Int)), (.func (.func f_f) s_f c_f), (.slice p_xs L_xs.length q_xs), (u4 13), (u4 14), (u4 15), (u4 16), (u4 17), (u4 18)]) rfl rfl (does_move (u := (.slice p_xs L_xs.length q_xs)) (ev rfl)) rfl ?_
      refine q_is (l' := [(.slice p_xs L_xs.length q_xs), (.func (.func f_f) s_f c_f), Ud, Ud, (u4 4), (Iv (k : Int)), (.slice p_xs L_xs.length q_xs), (Iv (L_xs.length : Int)), (Iv (k : Int)), (Bo (icmp .lss (k : Int) (L_xs.length : Int))), (Iv (k : Int)), (.func (.func f_f) s_f c_f), (.slice p_xs L_xs.length q_xs), (Iv (k : Int)), (u4 14), (u4 15), (u4 16), (u4 17), (u4 18)]) rfl rfl (does_move (u := (Iv (k : Int))) (ev rfl)) rfl ?_
      obtain ⟨el1, hel1⟩ : ∃ e, L_xs[k]? = some e := ⟨_, List.getElem?_eq_getElem (by omega)⟩
      refine seqd rfl rfl (does_indexSl (R := RI) (i := (k : Int)) (xs := L_xs) (e := el1) Try.underlying44 Try.sizeOf2 (ev rfl) (ev rfl) (Sl.ext hv_xs RI.mono X8) (by omega) hel1) ?_; rintro _ w5 ⟨b15, o16, _, rfl, hc18, rfl, rfl⟩
      show wpList _ _ _ _ (fr [(.slice p_xs L_xs.length q_xs), (.func (.func f_f) s_f c_f), Ud, Ud, (u4 4), (Iv (k : Int)), (.slice p_xs L_xs.length q_xs), (Iv (L_xs.length : Int)), (Iv (k : Int)), (Bo (icmp .lss (k : Int) (L_xs.length : Int))), (Iv (k : Int)), (.func (.func f_f) s_f c_f), (.slice p_xs L_xs.length q_xs), (Iv (k : Int)), (Pt b15 o16), (u4 15), (u4 16), (u4 17), (u4 18)]) _
      refine q_is (l' := [(.slice p_xs L_xs.length q_xs), (.func (.func f_f) s_f c_f), Ud, Ud, (u4 4), (Iv (k : Int)), (.slice p_xs L_xs.length q_xs), (Iv (L_xs.length : Int)), (Iv (k : Int)), (Bo (icmp .lss (k : Int) (L_xs.length : Int))), (Iv (k : Int)), (.func (.func f_f) s_f c_f), (.slice p_xs L_xs.length q_xs), (Iv (k : Int)), (Pt b15 o16), (Iv el1), (u4 16), (u4 17), (u4 18)]) rfl rfl (does_load (u := (Iv el1)) (ev rfl) Try.isAgg2 (Cells.at hc18 0 rfl)) rfl ?_
      refine seqd rfl rfl (does_callf (args := #[(Iv el1)]) (ev rfl) hcal_f (evs rfl) (hg_f el1 _ X8 )) ?_; rintro _ w20 ⟨E19, rfl⟩
      have X21 := Ext.gr X8 E19
      show wpList _ _ _ _ (fr [(.slice p_xs L_xs.length q_xs), (.func (.func f_f) s_f c_f), Ud, Ud, (u4 4), (Iv (k : Int)), (.slice p_xs L_xs.length q_xs), (Iv (L_xs.length : Int)), (Iv (k : Int)), (Bo (icmp .lss (k : Int) (L_xs.length : Int))), (Iv (k : Int)), (.func (.func f_f) s_f c_f), (.slice p_xs L_xs.length q_xs), (Iv (k : Int)), (Pt b15 o16), (Iv el1), (Bo (pr_f el1)), (u4 17), (u4 18)]) _
      refine wpList_nil (hK14 _ _ ?_)
      refine wp_cond_split (t := pr_f el1) (ev rfl) (fun c22 => ?_) (fun c22 => ?_)
      · have c22' := c22
        refine wp_seq_k fun K23 hK23 => ?_
        refine wp_region_lit ?_
        refine q_is (l' := [(.slice p_xs L_xs.length q_xs), (.func (.func f_f) s_f c_f), Ud, Ud, (u4 4), (Iv (k : Int)), (.slice p_xs L_xs.length q_xs), (Iv (L_xs.length : Int)), (Iv (k : Int)), (Bo (icmp .lss (k : Int) (L_xs.length : Int))), (Iv (k : Int)), (.func (.func f_f) s_f c_f), (.slice p_xs L_xs.length q_xs), (Iv (k : Int)), (Pt b15 o16), (Iv el1), (Bo (pr_f el1)), (Iv (k : Int)), (u4 18)]) rfl rfl (does_move (u := (Iv (k : Int))) (ev rfl)) rfl ?_
        refine q_is (l' := [(.slice p_xs L_xs.length q_xs), (.func (.func f_f) s_f c_f), Ud, Ud, (Iv (k : Int)), (Iv (k : Int)), (.slice p_xs L_xs.length q_xs), (Iv (L_xs.length : Int)), (Iv (k : Int)), (Bo (icmp .lss (k : Int) (L_xs.length : Int))), (Iv (k : Int)), (.func (.func f_f) s_f c_f), (.slice p_xs L_xs.length q_xs), (Iv (k : Int)), (Pt b15 o16), (Iv el1), (Bo (pr_f el1)), (Iv (k : Int)), (u4 18)]) rfl rfl (does_assign (u := (Iv (k : Int))) (ev rfl)) rfl ?_
        refine wpList_nil (hK23 _ _ ?_)
        refine wp_ret ?_
        dsimp only [Exit.then, Exit.inBlock]
        refine ret_val (v := (Iv (k : Int))) (res_T rfl (slot rfl)) X21 ?_
        try simp only [hel1] at c11 c22
        have x24 : (findI pr_f L_xs : Int) = (k : Int) := by first | exact findI_at hno (by assumption) (by simp_all) | exact findI_none hno (by omega)
        exact (by first | with_reducible rfl | rw [x24] | rfl)
      have c22' := c22
      refine wp_skip (hK12 _ _ ?_)
      refine wp_region_lit ?_
      refine q_is (l' := [(.slice p_xs L_xs.length q_xs), (.func (.func f_f) s_f c_f), Ud, Ud, (u4 4), (Iv (k : Int)), (.slice p_xs L_xs.length q_xs), (Iv (L_xs.length : Int)), (Iv (k : Int)), (Bo (icmp .lss (k : Int) (L_xs.length : Int))), (Iv (k : Int)), (.func (.func f_f) s_f c_f), (.slice p_xs L_xs.length q_xs), (Iv (k : Int)), (Pt b15 o16), (Iv el1), (Bo (pr_f el1)), (u4 17), (Iv ((k : Int) + 1))]) rfl rfl (does_iarith (p := (k : Int)) (q := 1) (r := (k : Int) + 1) (ev rfl) (ev rfl) (.inl ⟨rfl, (in_i64 (by omega) (by omega)).symm⟩)) rfl ?_
      refine q_is (l' := [(.slice p_xs L_xs.length q_xs), (.func (.func f_f) s_f c_f), Ud, Ud, (u4 4), (Iv (k : Int)), (.slice p_xs L_xs.length q_xs), (Iv (L_xs.length : Int)), (Iv ((k : Int) + 1)), (Bo (icmp .lss (k : Int) (L_xs.length : Int))), (Iv (k : Int)), (.func (.func f_f) s_f c_f), (.slice p_xs L_xs.length q_xs), (Iv (k : Int)), (Pt b15 o16), (Iv el1), (Bo (pr_f el1)), (u4 17), (Iv ((k : Int) + 1))]) rfl rfl (does_move (u := (Iv ((k : Int) + 1))) (ev rfl)) rfl ?_
      refine wpList_nil ?_
      refine ⟨k + 1, ⟨fun t => (([(.slice p_xs L_xs.length q_xs), (.func (.func f_f) s_f c_f), Ud, Ud, (u4 4), (Iv (k : Int)), (.slice p_xs L_xs.length q_xs), (Iv (L_xs.length : Int)), (Iv ((k : Int) + 1)), (Bo (icmp .lss (k : Int) (L_xs.length : Int))), (Iv (k : Int)), (.func (.func f_f) s_f c_f), (.slice p_xs L_xs.length q_xs), (Iv (k : Int)), (Pt b15 o16), (Iv el1), (Bo (pr_f el1)), (u4 17), (Iv ((k : Int) + 1))] : List Value)[t]?).getD undef, ?_, (Ext.gr E6 E19), ?_⟩, ?_⟩
      · first | rfl | (simp only [Int.natCast_add, Int.natCast_one]; rfl)
      · exact ⟨by omega, NoneTo.step hno (by assumption) (by simp_all)⟩
      · omega
    have c11' := c11
    (try simp only [icmp, Bool.and_eq_true, Bool.or_eq_true, Bool.and_eq_false_iff, Bool.or_eq_false_iff, Bool.not_eq_true', Bool.not_eq_false', decide_eq_true_eq, decide_eq_false_iff_not, beq_iff_eq, bne_iff_ne, beq_eq_false_iff_ne, bne_eq_false_iff_eq] at c11')
    refine wp_exit ?_
    refine hK2 _ _ ?_
    refine wp_seq_k fun K25 hK25 => ?_
    refine wp_region_lit ?_
    refine q_is (l' := [(.slice p_xs L_xs.length q_xs), (.func (.func f_f) s_f c_f), Ud, Ud, (Iv (-1)), (u4 5), (.slice p_xs L_xs.length q_xs), (Iv (L_xs.length : Int)), (Iv (k : Int)), (Bo (icmp .lss (k : Int) (L_xs.length : Int))), (u4 10), (u4 11), (u4 12), (u4 13), (u4 14), (u4 15), (u4 16), (u4 17), (u4 18)]) rfl rfl (does_assign (u := (Iv (-1))) (ev rfl)) rfl ?_
    refine wpList_nil (hK25 _ _ ?_)
    refine wp_ret ?_
    refine ret_val (v := (Iv (-1))) (res_T rfl (slot rfl)) X8 ?_
    have x26 : (findI pr_f L_xs : Int) = (-1) := by first | exact findI_at hno (by assumption) (by simp_all) | exact findI_none hno (by omega)
    exact (by first | with_reducible rfl | rw [x26] | rfl)

/- slices.ContainsFunc[[]int64,int64] -/
theorem c_slices_ContainsFunc_int64_int64 (xs : Value) (L_xs : List Int) (f : Value) (pr_f : Int → Bool) (w : World) (hv_xs : Sl RI 1 w xs L_xs) (hv_f : ∃ fi fst cap, f = .func (.func fi) fst cap ∧ (∀ args w, (callFunc fi args).run Try.prog w = .ok (.enter fi args) w) ∧ ∀ (n0 : Int) u, Ext w u → Gives Try.prog fi (fst ++ #[.int .i64 n0] ++ cap) u (fun v _ => v = .bool (pr_f n0))) : Gives Try.prog 57 #[xs, f] w (fun v w' => v = (Bo (L_xs.any pr_f))) := by
  have hlen_xs := Sl.len hv_xs; obtain ⟨p_xs, q_xs, rfl⟩ := Sl.shape hv_xs
  obtain ⟨f_f, s_f, c_f, rfl, hcal_f, hg_f⟩ := hv_f
  refine enter [(.slice p_xs L_xs.length q_xs), (.func (.func f_f) s_f c_f), Ud, Ud, Ud, Ud, Ud, Ud, Ud] Try.func57 rfl Try.ntmps57 rfl ?_
  refine wp_seq_k fun K1 hK1 => ?_
  refine wp_region_lit ?_
  refine q_is (l' := [(.slice p_xs L_xs.length q_xs), (.func (.func f_f) s_f c_f), Ud, Ud, (Bo false), Ud, Ud, Ud, Ud]) rfl rfl (does_assign (u := (Bo false)) (ev rfl)) rfl ?_
  refine wpList_nil (hK1 _ _ ?_)
  refine wp_seq_k fun K2 hK2 => ?_
  refine wp_region_lit ?_
  refine q_is (l' := [(.slice p_xs L_xs.length q_xs), (.func (.func f_f) s_f c_f), Ud, Ud, (Bo false), (.slice p_xs L_xs.length q_xs), Ud, Ud, Ud]) rfl rfl (does_move (u := (.slice p_xs L_xs.length q_xs)) (ev rfl)) rfl ?_
  refine q_is (l' := [(.slice p_xs L_xs.length q_xs), (.func (.func f_f) s_f c_f), Ud, Ud, (Bo false), (.slice p_xs L_xs.length q_xs), (.func (.func f_f) s_f c_f), Ud, Ud]) rfl rfl (does_move (u := (.func (.func f_f) s_f c_f)) (ev rfl)) rfl ?_
  refine seqd rfl rfl (does_call (args := #[(.slice p_xs L_xs.length q_xs), (.func (.func f_f) s_f c_f)]) cal67 (evs rfl) (c_slices_IndexFunc_int64_int64 (.slice p_xs L_xs.length q_xs) L_xs (.func (.func f_f) s_f c_f) pr_f _ hv_xs ⟨_, _, _, rfl, hcal_f, fun n0 u hu'  => hg_f n0 u (Ext.gr (Ext.refl w) hu') ⟩)) ?_; rintro _ w4 ⟨E3, rfl⟩
  have X5 := Ext.gr (Ext.refl w) E3
  show wpList _ _ _ _ (fr [(.slice p_xs L_xs.length q_xs), (.func (.func f_f) s_f c_f), Ud, Ud, (Bo false), (.slice p_xs L_xs.length q_xs), (.func (.func f_f) s_f c_f), (Iv (findI pr_f L_xs)), Ud]) _
  refine q_is (l' := [(.slice p_xs L_xs.length q_xs), (.func (.func f_f) s_f c_f), Ud, Ud, (Bo false), (.slice p_xs L_xs.length q_xs), (.func (.func f_f) s_f c_f), (Iv (findI pr_f L_xs)), (Bo (icmp .geq (findI pr_f L_xs) 0))]) rfl rfl (does_icmp (p := findI pr_f L_xs) (q := 0) (.inr (.inr (.inr (.inr (.inr rfl))))) (ev rfl) (ev rfl)) rfl ?_
  refine q_is (l' := [(.slice p_xs L_xs.length q_xs), (.func (.func f_f) s_f c_f), Ud, Ud, (Bo (icmp .geq (findI pr_f L_xs) 0)), (.slice p_xs L_xs.length q_xs), (.func (.func f_f) s_f c_f), (Iv (findI pr_f L_xs)), (Bo (icmp .geq (findI pr_f L_xs) 0))]) rfl rfl (does_assign (u := (Bo (icmp .geq (findI pr_f L_xs) 0))) (ev rfl)) rfl ?_
  refine wpList_nil (hK2 _ _ ?_)
  refine wp_ret ?_
  refine ret_val (v := (Bo (icmp .geq (findI pr_f L_xs) 0))) (res_T rfl (slot rfl)) X5 ?_
  have x6 : (L_xs.any pr_f) = (icmp .geq (findI pr_f L_xs) 0) := by first | with_reducible rfl | (simp only [findI_any]; done) | (simp [findI_any]; done) | rfl
  exact (by first | with_reducible rfl | rw [x6] | rfl)

/- impl.in -/
theorem c_impl_in (n : Int) (low : Int) (high : Int) (w : World) : Gives Try.prog 59 #[(Iv n), (Iv low), (Iv high)] w (fun v w' => v = (Bo (inI n low high))) := by
  refine enter [(Iv n), (Iv low), (Iv high), Ud, Ud, Ud, Ud, Ud, Ud, Ud, Ud, Ud, Ud, Ud, Ud] Try.func59 rfl Try.ntmps59 rfl ?_
  refine wp_seq_k fun K1 hK1 => ?_
  refine wp_region_lit ?_
  refine q_is (l' := [(Iv n), (Iv low), (Iv high), Ud, Ud, Ud, (Bo false), Ud, Ud, Ud, Ud, Ud, Ud, Ud, Ud]) rfl rfl (does_assign (u := (Bo false)) (ev rfl)) rfl ?_
  refine wpList_nil (hK1 _ _ ?_)
  refine wp_seq_k fun K2 hK2 => ?_
  obtain ⟨β1, hβ1⟩ : ∃ b : Bool, b = ((icmp .geq n low) && (icmp .leq n high)) := ⟨_, rfl⟩
  refine region_text (
    [Fact.pure [] (fun v => v = (Iv n)),
    Fact.pure [] (fun v => v = (Iv low)),
    Fact.pure [7, 8] (fun v => v = (Bo (icmp .geq n low))),
    Fact.pure [9] (fun v => v = (Bo (icmp .geq n low))),
    Fact.pure [10] (fun v => (icmp .geq n low) = true → v = (Iv n)),
    Fact.pure [10] (fun v => (icmp .geq n low) = true → v = (Iv high)),
    Fact.pure [11, 12, 10] (fun v => (icmp .geq n low) = true → v = (Bo (icmp .leq n high))),
    Fact.pure [10, 13] (fun v => v = (Bo β1))]) (by simp [Fact.pure, Fact.mem]) ?_
  refine RW_d (fun v3 => [(Iv n), (Iv low), (Iv high), Ud, Ud, Ud, (Bo false), v3, Ud, Ud, Ud, Ud, Ud, Ud, Ud]) rfl (fun _ => rfl) (fun u hu hF => ?_) (fun v3 => ?_)
  · clear hF
    refine doesG_un rfl ?_
    refine (does_move (u := (Iv n)) (ev rfl)).mono ?_; rintro _ _ ⟨rfl, rfl⟩
    exact ⟨rfl, Ext.refl _⟩
  refine RW_d (fun v4 => [(Iv n), (Iv low), (Iv high), Ud, Ud, Ud, (Bo false), v3, v4, Ud, Ud, Ud, Ud, Ud, Ud]) rfl (fun _ => rfl) (fun u hu hF => ?_) (fun v4 => ?_)
  · clear hF
    refine doesG_un rfl ?_
    refine (does_move (u := (Iv low)) (ev rfl)).mono ?_; rintro _ _ ⟨rfl, rfl⟩
    exact ⟨rfl, Ext.refl _⟩
  refine RW_d (fun v5 => [(Iv n), (Iv low), (Iv high), Ud, Ud, Ud, (Bo false), v3, v4, v5, Ud, Ud, Ud, Ud, Ud]) rfl (fun _ => rfl) (fun u hu hF => ?_) (fun v5 => ?_)
  · have h7_ : v3 = (Iv n) := hF.1
    have h8_ : v4 = (Iv low) := hF.2.1
    clear hF
    refine doesG_un rfl ?_
    obtain rfl := h7_
    obtain rfl := h8_
    refine (does_icmp (p := n) (q := low) (.inr (.inr (.inr (.inr (.inr rfl))))) (ev rfl) (ev rfl)).mono ?_; rintro _ _ ⟨rfl, rfl⟩
    exact ⟨rfl, Ext.refl _⟩
  refine RW_d (fun v6 => [(Iv n), (Iv low), (Iv high), Ud, Ud, Ud, (Bo false), v3, v4, v5, v6, Ud, Ud, Ud, Ud]) rfl (fun _ => rfl) (fun u hu hF => ?_) (fun v6 => ?_)
  · have h9_ : v5 = (Bo (icmp .geq n low)) := hF.1
    clear hF
    refine doesG_un rfl ?_
    obtain rfl := h9_
    refine (does_move (u := (Bo (icmp .geq n low))) (ev rfl)).mono ?_; rintro _ _ ⟨rfl, rfl⟩
    exact ⟨rfl, Ext.refl _⟩
  refine RW_d (fun v7 => [(Iv n), (Iv low), (Iv high), Ud, Ud, Ud, (Bo false), v3, v4, v5, v6, v7, Ud, Ud, Ud]) rfl (fun _ => rfl) (fun u hu hF => ?_) (fun v7 => ?_)
  · have h10_ : v6 = (Bo (icmp .geq n low)) := hF.1
    clear hF
    obtain rfl := h10_
    refine doesG_g (b := (icmp .geq n low)) rfl (yld rfl rfl) (fun hg1 => ?_) (fun hc => ⟨fun hg1 => absurd hg1 hc, Ext.refl _⟩)
    refine (does_move (u := (Iv n)) (ev rfl)).mono ?_; rintro _ _ ⟨rfl, rfl⟩
    exact ⟨fun _ => rfl, Ext.refl _⟩
  refine RW_d (fun v8 => [(Iv n), (Iv low), (Iv high), Ud, Ud, Ud, (Bo false), v3, v4, v5, v6, v7, v8, Ud, Ud]) rfl (fun _ => rfl) (fun u hu hF => ?_) (fun v8 => ?_)
  · have h10_ : v6 = (Bo (icmp .geq n low)) := hF.1
    clear hF
    obtain rfl := h10_
    refine doesG_g (b := (icmp .geq n low)) rfl (yld rfl rfl) (fun hg1 => ?_) (fun hc => ⟨fun hg1 => absurd hg1 hc, Ext.refl _⟩)
    refine (does_move (u := (Iv high)) (ev rfl)).mono ?_; rintro _ _ ⟨rfl, rfl⟩
    exact ⟨fun _ => rfl, Ext.refl _⟩
  refine RW_d (fun v9 => [(Iv n), (Iv low), (Iv high), Ud, Ud, Ud, (Bo false), v3, v4, v5, v6, v7, v8, v9, Ud]) rfl (fun _ => rfl) (fun u hu hF => ?_) (fun v9 => ?_)
  · have h11_ : (icmp .geq n low) = true → v7 = (Iv n) := hF.1
    have h12_ : (icmp .geq n low) = true → v8 = (Iv high) := hF.2.1
    have h10_ : v6 = (Bo (icmp .geq n low)) := hF.2.2.1
    clear hF
    obtain rfl := h10_
    refine doesG_g (b := (icmp .geq n low)) rfl (yld rfl rfl) (fun hg1 => ?_) (fun hc => ⟨fun hg1 => absurd hg1 hc, Ext.refl _⟩)
    obtain rfl := h11_ hg1
    obtain rfl := h12_ hg1
    refine (does_icmp (p := n) (q := high) (.inr (.inr (.inr (.inl rfl)))) (ev rfl) (ev rfl)).mono ?_; rintro _ _ ⟨rfl, rfl⟩
    exact ⟨fun _ => rfl, Ext.refl _⟩
  refine RW_d (fun v10 => [(Iv n), (Iv low), (Iv high), Ud, Ud, Ud, (Bo false), v3, v4, v5, v6, v7, v8, v9, v10]) rfl (fun _ => rfl) (fun u hu hF => ?_) (fun v10 => ?_)
  · have h10_ : v6 = (Bo (icmp .geq n low)) := hF.1
    have h13_ : (icmp .geq n low) = true → v9 = (Bo (icmp .leq n high)) := hF.2.1
    clear hF
    refine doesG_un rfl ?_
    skip
    obtain rfl := h10_
    refine (does_pick (b := (icmp .geq n low)) (u := v9) (v := (Bo false)) (ev rfl) (ev rfl) (ev rfl)).mono ?_; rintro _ _ ⟨rfl, rfl⟩; refine ⟨?_, Ext.refl _⟩; rw [hβ1]; skip
    cases hbb : (icmp .geq n low)
    all_goals first | (show _ = _; simp only [↓reduceIte, Bool.true_and, Bool.false_and, Bool.true_or, Bool.false_or, Bool.false_eq_true]; done) | (have e_ := h13_ hbb; subst e_; show _ = _; simp only [↓reduceIte, Bool.true_and, Bool.false_and, Bool.true_or, Bool.false_or, Bool.false_eq_true]; done) | rfl | (have e_ := h13_ hbb; subst e_; rfl) | (simp [hbb] at h13_ ⊢; first | done | rfl | (subst h13_; rfl) | simp_all) | (simp [hbb] at h13_ ⊢; done)
  refine RW_fin ?_; intro w11 E12 hP13
  obtain ⟨⟨⟨⟨⟨⟨⟨⟨-, -⟩, -⟩, -⟩, -⟩, -⟩, -⟩, -⟩, q14⟩ := hP13
  have X15 := Ext.gr (Ext.refl w) E12
  have q14 : v10 = (Bo β1) := q14
  obtain rfl := q14
  show wpList _ _ _ _ (fr [(Iv n), (Iv low), (Iv high), Ud, Ud, Ud, (Bo false), v3, v4, v5, v6, v7, v8, v9, (Bo β1)]) _
  refine q_is (l' := [(Iv n), (Iv low), (Iv high), Ud, Ud, Ud, (Bo β1), v3, v4, v5, v6, v7, v8, v9, (Bo β1)]) rfl rfl (does_assign (u := (Bo β1)) (ev rfl)) rfl ?_
  refine wpList_nil (hK2 _ _ ?_)
  refine wp_ret ?_
  refine ret_val (v := (Bo β1)) (res_T rfl (slot rfl)) X15 ?_
  have x16 : (inI n low high) = β1 := by first | with_reducible rfl | (simp only [inI, hβ1]; done) | (simp [inI, hβ1]; done) | rfl
  exact (by first | with_reducible rfl | rw [x16] | rfl)

/- impl.isTriangle$1 -/
theorem c_impl_isTriangle_1 (x_ : Int) (pn_b : Nat) (pn_o : Nat) (n_ : Int) (w : World) (hc_pn : Cells w pn_b pn_o [(Iv n_)]) : Gives Try.prog 58 #[(Iv x_), (Pt pn_b pn_o)] w (fun v w' => v = (Bo (!inI x_ 0 (IntKind.i64.wrap (n_ - 1))))) := by
  refine enter [(Iv x_), (Pt pn_b pn_o), Ud, Ud, Ud, Ud, Ud, Ud, Ud] Try.func58 rfl Try.ntmps58 rfl ?_
  refine wp_seq_k fun K1 hK1 => ?_
  refine wp_region_lit ?_
  refine q_is (l' := [(Iv x_), (Pt pn_b pn_o), Ud, (Bo false), Ud, Ud, Ud, Ud, Ud]) rfl rfl (does_assign (u := (Bo false)) (ev rfl)) rfl ?_
  refine wpList_nil (hK1 _ _ ?_)
  refine wp_seq_k fun K2 hK2 => ?_
  refine wp_region_lit ?_
  refine q_is (l' := [(Iv x_), (Pt pn_b pn_o), Ud, (Bo false), (Iv x_), Ud, Ud, Ud, Ud]) rfl rfl (does_move (u := (Iv x_)) (ev rfl)) rfl ?_
  refine q_is (l' := [(Iv x_), (Pt pn_b pn_o), Ud, (Bo false), (Iv x_), (Iv n_), Ud, Ud, Ud]) rfl rfl (does_load (u := (Iv n_)) (ev rfl) Try.isAgg3 (Cells.at hc_pn 0 rfl)) rfl ?_
  refine q_is (l' := [(Iv x_), (Pt pn_b pn_o), Ud, (Bo false), (Iv x_), (Iv n_), (Iv (IntKind.i64.wrap (n_ - 1))), Ud, Ud]) rfl rfl (does_iarith (p := n_) (q := 1) (r := IntKind.i64.wrap (n_ - 1)) (ev rfl) (ev rfl) (.inr (.inl ⟨rfl, rfl⟩))) rfl ?_
  refine seqd rfl rfl (does_call (args := #[(Iv x_), (Iv 0), (Iv (IntKind.i64.wrap (n_ - 1)))]) cal59 (evs rfl) (c_impl_in x_ 0 (IntKind.i64.wrap (n_ - 1)) _)) ?_; rintro _ w4 ⟨E3, rfl⟩
  have X5 := Ext.gr (Ext.refl w) E3
  show wpList _ _ _ _ (fr [(Iv x_), (Pt pn_b pn_o), Ud, (Bo false), (Iv x_), (Iv n_), (Iv (IntKind.i64.wrap (n_ - 1))), (Bo (inI x_ 0 (IntKind.i64.wrap (n_ - 1)))), Ud]) _
  refine q_is (l' := [(Iv x_), (Pt pn_b pn_o), Ud, (Bo false), (Iv x_), (Iv n_), (Iv (IntKind.i64.wrap (n_ - 1))), (Bo (inI x_ 0 (IntKind.i64.wrap (n_ - 1)))), (Bo (!(inI x_ 0 (IntKind.i64.wrap (n_ - 1)))))]) rfl rfl (does_not (ev rfl)) rfl ?_
  refine q_is (l' := [(Iv x_), (Pt pn_b pn_o), Ud, (Bo (!(inI x_ 0 (IntKind.i64.wrap (n_ - 1))))), (Iv x_), (Iv n_), (Iv (IntKind.i64.wrap (n_ - 1))), (Bo (inI x_ 0 (IntKind.i64.wrap (n_ - 1)))), (Bo (!(inI x_ 0 (IntKind.i64.wrap (n_ - 1)))))]) rfl rfl (does_assign (u := (Bo (!(inI x_ 0 (IntKind.i64.wrap (n_ - 1)))))) (ev rfl)) rfl ?_
  refine wpList_nil (hK2 _ _ ?_)
  refine wp_ret ?_
  refine ret_val (v := (Bo (!(inI x_ 0 (IntKind.i64.wrap (n_ - 1)))))) (res_T rfl (slot rfl)) X5 ?_
  have x6 : (!inI x_ 0 (IntKind.i64.wrap (n_ - 1))) = (!(inI x_ 0 (IntKind.i64.wrap (n_ - 1)))) := by first | with_reducible rfl | (simp only []; done) | (simp []; done) | rfl
  exact (by first | with_reducible rfl | rw [x6] | rfl)

/- impl.isTriangle -/
theorem c_impl_isTriangle (t_ : Value) (L_t_ : List Int) (n_ : Int) (w : World) (hv_t_ : Sl RI 1 w t_ L_t_) : Gives Try.prog 43 #[t_, (Iv n_)] w (fun v w' => v = (Bo (triOk n_ L_t_))) := by
  have hlen_t_ := Sl.len hv_t_; obtain ⟨p_t_, q_t_, rfl⟩ := Sl.shape hv_t_
  refine enter [(.slice p_t_ L_t_.length q_t_), (Iv n_), Ud, Ud, Ud, Ud, Ud, Ud, Ud, Ud, Ud, Ud, Ud, Ud, Ud, Ud, Ud, Ud, Ud, Ud, Ud, Ud, Ud, Ud, Ud, Ud, Ud, Ud, Ud, Ud, Ud, Ud, Ud, Ud, Ud, Ud, Ud, Ud, Ud] Try.func43 rfl Try.ntmps43 rfl ?_
  refine wp_seq_k fun K1 hK1 => ?_
  refine wp_region_lit ?_
  refine seqd rfl rfl (does_box (u := (Iv n_)) (ev rfl)) ?_; rintro _ w6 ⟨b2, rfl, hb3, hB4, E5⟩
  have g7 : w.heap.size ≤ b2 := Nat.le_trans (Below.size (Ext.refl w)) hb3
  change Blk _ _ [(Iv n_)] at hB4
  have X8 := Ext.gr (Ext.refl w) E5
  show wpList _ _ _ _ (fr [_, _, _, _, _, _, _, _, _, _, _, _, _, _, _, _, _, _, _, _, _, _, _, _, _, _, _, _, _, _, _, _, _, _, _, _, _, _, _]) _
  refine q_is rfl rfl (does_assign (u := (Bo false)) (ev rfl)) (by dsimp only [List.set]; try rfl) ?_
  refine wpList_nil (hK1 _ _ ?_)
  refine wp_seq_k fun K9 hK9 => ?_
  refine wp_seq_k fun K10 hK10 => ?_
  obtain ⟨β1, hβ1⟩ : ∃ b : Bool, b = (icmp .neq (L_t_.length : Int) 3) := ⟨_, rfl⟩
  obtain ⟨el1, hel1⟩ := exists_el (0 : Int) L_t_ 0
  obtain ⟨el2, hel2⟩ := exists_el (0 : Int) L_t_ 1
  obtain ⟨β2, hβ2⟩ : ∃ b : Bool, b = (β1 || (icmp .eql el1 el2)) := ⟨_, rfl⟩
  obtain ⟨el3, hel3⟩ := exists_el (0 : Int) L_t_ 2
  obtain ⟨β3, hβ3⟩ : ∃ b : Bool, b = (β2 || (icmp .eql el2 el3)) := ⟨_, rfl⟩
  obtain ⟨β4, hβ4⟩ : ∃ b : Bool, b = (β3 || (icmp .eql el3 el1)) := ⟨_, rfl⟩
  refine region_draw (
    [Fact.pure [] (fun v => v = (.slice p_t_ L_t_.length q_t_)),
    Fact.pure [5] (fun v => v = (Iv (L_t_.length : Int))),
    Fact.pure [6] (fun v => v = (Bo β1)),
    Fact.pure [7] (fun v => v = (Bo β1)),
    Fact.pure [8] (fun v => β1 = false → v = (.slice p_t_ L_t_.length q_t_)),
    Fact.mem [9, 8] (fun v w' => β1 = false → PtrR RI w' v el1) (by intro v w1 w2 hx h; exact fun hg1 => (h hg1).ext RI.mono hx),
    Fact.pure [10, 8] (fun v => β1 = false → v = (Iv el1)),
    Fact.pure [8] (fun v => β1 = false → v = (.slice p_t_ L_t_.length q_t_)),
    Fact.mem [12, 8] (fun v w' => β1 = false → PtrR RI w' v el2) (by intro v w1 w2 hx h; exact fun hg1 => (h hg1).ext RI.mono hx),
    Fact.pure [13, 8] (fun v => β1 = false → v = (Iv el2)),
    Fact.pure [11, 14, 8] (fun v => β1 = false → v = (Bo (icmp .eql el1 el2))),
    Fact.pure [8, 15] (fun v => v = (Bo β2)),
    Fact.pure [16] (fun v => v = (Bo β2)),
    Fact.pure [17] (fun v => β2 = false → v = (.slice p_t_ L_t_.length q_t_)),
    Fact.mem [18, 17] (fun v w' => β2 = false → PtrR RI w' v el2) (by intro v w1 w2 hx h; exact fun hg1 => (h hg1).ext RI.mono hx),
    Fact.pure [19, 17] (fun v => β2 = false → v = (Iv el2)),
    Fact.pure [17] (fun v => β2 = false → v = (.slice p_t_ L_t_.length q_t_)),
    Fact.mem [21, 17] (fun v w' => β2 = false → PtrR RI w' v el3) (by intro v w1 w2 hx h; exact fun hg1 => (h hg1).ext RI.mono hx),
    Fact.pure [22, 17] (fun v => β2 = false → v = (Iv el3)),
    Fact.pure [20, 23, 17] (fun v => β2 = false → v = (Bo (icmp .eql el2 el3))),
    Fact.pure [17, 24] (fun v => v = (Bo β3)),
    Fact.pure [25] (fun v => v = (Bo β3)),
    Fact.pure [26] (fun v => β3 = false → v = (.slice p_t_ L_t_.length q_t_)),
    Fact.mem [27, 26] (fun v w' => β3 = false → PtrR RI w' v el3) (by intro v w1 w2 hx h; exact fun hg1 => (h hg1).ext RI.mono hx),
    Fact.pure [28, 26] (fun v => β3 = false → v = (Iv el3)),
    Fact.pure [26] (fun v => β3 = false → v = (.slice p_t_ L_t_.length q_t_)),
    Fact.mem [30, 26] (fun v w' => β3 = false → PtrR RI w' v el1) (by intro v w1 w2 hx h; exact fun hg1 => (h hg1).ext RI.mono hx),
    Fact.pure [31, 26] (fun v => β3 = false → v = (Iv el1)),
    Fact.pure [29, 32, 26] (fun v => β3 = false → v = (Bo (icmp .eql el3 el1))),
    Fact.pure [26, 33] (fun v => v = (Bo β4))]) mixed (by kernel_rfl) (by intro _ _ d _ _ h; cases d <;> exact h) ?_
  obtain ⟨w11, hw13⟩ : ∃ w', w' = World.drew w6 := ⟨_, rfl⟩; rw [← hw13]; have E12 : Ext w6 w11 := by rw [hw13]; exact Ext.draw _
  clear hw13
  have X14 := Ext.gr X8 E12
  refine RW_d _ rfl (fun v => by dsimp only [List.set]; try rfl) (fun u hu hF => ?_) (fun v15 => ?_)
  · clear hF
    refine doesG_un rfl ?_
    refine (does_move (u := (.slice p_t_ L_t_.length q_t_)) (ev rfl)).mono ?_; rintro _ _ ⟨rfl, rfl⟩
    exact ⟨rfl, Ext.refl _⟩
  refine RW_d _ rfl (fun v => by dsimp only [List.set]; try rfl) (fun u hu hF => ?_) (fun v16 => ?_)
  · have h5_ : v15 = (.slice p_t_ L_t_.length q_t_) := hF.1
    clear hF
    refine doesG_un rfl ?_
    obtain rfl := h5_
    refine (does_len_slice Try.underlying44 (ev rfl)).mono ?_; rintro _ _ ⟨rfl, rfl⟩
    exact ⟨rfl, Ext.refl _⟩
  refine RW_d _ rfl (fun v => by dsimp only [List.set]; try rfl) (fun u hu hF => ?_) (fun v17 => ?_)
  · have h6_ : v16 = (Iv (L_t_.length : Int)) := hF.1
    clear hF
    refine doesG_un rfl ?_
    obtain rfl := h6_
    refine (does_icmp (p := (L_t_.length : Int)) (q := 3) (.inr (.inl rfl)) (ev rfl) (ev rfl)).mono ?_; rintro _ _ ⟨rfl, rfl⟩
    exact ⟨(by first | rfl | (show _ = _; simp only [hβ1]; done) | (show _ = _; simp only [hβ1]; rfl)), Ext.refl _⟩
  refine RW_d _ rfl (fun v => by dsimp only [List.set]; try rfl) (fun u hu hF => ?_) (fun v18 => ?_)
  · have h7_ : v17 = (Bo β1) := hF.1
    clear hF
    refine doesG_un rfl ?_
    obtain rfl := h7_
    refine (does_move (u := (Bo β1)) (ev rfl)).mono ?_; rintro _ _ ⟨rfl, rfl⟩
    exact ⟨rfl, Ext.refl _⟩
  refine RW_d _ rfl (fun v => by dsimp only [List.set]; try rfl) (fun u hu hF => ?_) (fun v19 => ?_)
  · have h8_ : v18 = (Bo β1) := hF.1
    clear hF
    obtain rfl := h8_
    refine doesG_g (b := β1) rfl (yld rfl rfl) (fun hg1 => ?_) (fun hc => ⟨fun hg1 => absurd hg1 hc, Ext.refl _⟩)
    refine (does_move (u := (.slice p_t_ L_t_.length q_t_)) (ev rfl)).mono ?_; rintro _ _ ⟨rfl, rfl⟩
    exact ⟨fun _ => rfl, Ext.refl _⟩
  refine RW_d _ rfl (fun v => by dsimp only [List.set]; try rfl) (fun u hu hF => ?_) (fun v20 => ?_)
  · have h9_ : β1 = false → v19 = (.slice p_t_ L_t_.length q_t_) := hF.1
    have h8_ : v18 = (Bo β1) := hF.2.1
    clear hF
    obtain rfl := h8_
    refine doesG_g (b := β1) rfl (yld rfl rfl) (fun hg1 => ?_) (fun hc => ⟨fun hg1 => absurd hg1 hc, Ext.refl _⟩)
    obtain rfl := h9_ hg1
    refine (does_indexSl (R := RI) (i := 0) (xs := L_t_) (e := el1) Try.underlying44 Try.sizeOf2 (ev rfl) (ev rfl) (Sl.ext (Sl.ext hv_t_ RI.mono (Ext.gr X8 E12)) RI.mono hu) (by first | omega | (simp only [hβ1, icmp, Bool.or_eq_false_iff, Bool.not_eq_false', Bool.not_eq_true', decide_eq_true_eq, decide_eq_false_iff_not, bne_eq_false_iff_eq] at hg1; omega) | (simp only [hβ1, icmp, Bool.or_eq_false_iff, Bool.not_eq_false', Bool.not_eq_true', decide_eq_true_eq, decide_eq_false_iff_not, bne_eq_false_iff_eq] at hg1 hg2; omega)) (hel1 (by first | omega | (simp only [hβ1, icmp, Bool.or_eq_false_iff, Bool.not_eq_false', Bool.not_eq_true', bne_eq_false_iff_eq] at hg1; omega)))).mono ?_; rintro v u' ⟨b, of, cs, hv, hc, hR, hu'⟩; subst hu'
    exact ⟨fun _ => ⟨b, of, cs, hv, hc, hR⟩, Ext.refl _⟩
  refine RW_d _ rfl (fun v => by dsimp only [List.set]; try rfl) (fun u hu hF => ?_) (fun v21 => ?_)
  · have h10_ : β1 = false → PtrR RI u v20 el1 := hF.1
    have h8_ : v18 = (Bo β1) := hF.2.1
    clear hF
    obtain rfl := h8_
    refine doesG_g (b := β1) rfl (yld rfl rfl) (fun hg1 => ?_) (fun hc => ⟨fun hg1 => absurd hg1 hc, Ext.refl _⟩)
    obtain ⟨b10_, o10_, _, rfl, hc10_, rfl⟩ := h10_ hg1
    refine (does_load (u := (Iv el1)) (ev rfl) Try.isAgg2 (Cells.at hc10_ 0 rfl)).mono ?_; rintro _ _ ⟨rfl, rfl⟩
    exact ⟨fun _ => rfl, Ext.refl _⟩
  refine RW_d _ rfl (fun v => by dsimp only [List.set]; try rfl) (fun u hu hF => ?_) (fun v22 => ?_)
  · have h8_ : v18 = (Bo β1) := hF.1
    clear hF
    obtain rfl := h8_
    refine doesG_g (b := β1) rfl (yld rfl rfl) (fun hg1 => ?_) (fun hc => ⟨fun hg1 => absurd hg1 hc, Ext.refl _⟩)
    refine (does_move (u := (.slice p_t_ L_t_.length q_t_)) (ev rfl)).mono ?_; rintro _ _ ⟨rfl, rfl⟩
    exact ⟨fun _ => rfl, Ext.refl _⟩
  refine RW_d _ rfl (fun v => by dsimp only [List.set]; try rfl) (fun u hu hF => ?_) (fun v23 => ?_)
  · have h12_ : β1 = false → v22 = (.slice p_t_ L_t_.length q_t_) := hF.1
    have h8_ : v18 = (Bo β1) := hF.2.1
    clear hF
    obtain rfl := h8_
    refine doesG_g (b := β1) rfl (yld rfl rfl) (fun hg1 => ?_) (fun hc => ⟨fun hg1 => absurd hg1 hc, Ext.refl _⟩)
    obtain rfl := h12_ hg1
    refine (does_indexSl (R := RI) (i := 1) (xs := L_t_) (e := el2) Try.underlying44 Try.sizeOf2 (ev rfl) (ev rfl) (Sl.ext (Sl.ext hv_t_ RI.mono (Ext.gr X8 E12)) RI.mono hu) (by first | omega | (simp only [hβ1, icmp, Bool.or_eq_false_iff, Bool.not_eq_false', Bool.not_eq_true', decide_eq_true_eq, decide_eq_false_iff_not, bne_eq_false_iff_eq] at hg1; omega) | (simp only [hβ1, icmp, Bool.or_eq_false_iff, Bool.not_eq_false', Bool.not_eq_true', decide_eq_true_eq, decide_eq_false_iff_not, bne_eq_false_iff_eq] at hg1 hg2; omega)) (hel2 (by first | omega | (simp only [hβ1, icmp, Bool.or_eq_false_iff, Bool.not_eq_false', Bool.not_eq_true', bne_eq_false_iff_eq] at hg1; omega)))).mono ?_; rintro v u' ⟨b, of, cs, hv, hc, hR, hu'⟩; subst hu'
    exact ⟨fun _ => ⟨b, of, cs, hv, hc, hR⟩, Ext.refl _⟩
  refine RW_d _ rfl (fun v => by dsimp only [List.set]; try rfl) (fun u hu hF => ?_) (fun v24 => ?_)
  · have h13_ : β1 = false → PtrR RI u v23 el2 := hF.1
    have h8_ : v18 = (Bo β1) := hF.2.1
    clear hF
    obtain rfl := h8_
    refine doesG_g (b := β1) rfl (yld rfl rfl) (fun hg1 => ?_) (fun hc => ⟨fun hg1 => absurd hg1 hc, Ext.refl _⟩)
    obtain ⟨b13_, o13_, _, rfl, hc13_, rfl⟩ := h13_ hg1
    refine (does_load (u := (Iv el2)) (ev rfl) Try.isAgg2 (Cells.at hc13_ 0 rfl)).mono ?_; rintro _ _ ⟨rfl, rfl⟩
    exact ⟨fun _ => rfl, Ext.refl _⟩
  refine RW_d _ rfl (fun v => by dsimp only [List.set]; try rfl) (fun u hu hF => ?_) (fun v25 => ?_)
  · have h11_ : β1 = false → v21 = (Iv el1) := hF.1
    have h14_ : β1 = false → v24 = (Iv el2) := hF.2.1
    have h8_ : v18 = (Bo β1) := hF.2.2.1
    clear hF
    obtain rfl := h8_
    refine doesG_g (b := β1) rfl (yld rfl rfl) (fun hg1 => ?_) (fun hc => ⟨fun hg1 => absurd hg1 hc, Ext.refl _⟩)
    obtain rfl := h11_ hg1
    obtain rfl := h14_ hg1
    refine (does_icmp (p := el1) (q := el2) (.inl rfl) (ev rfl) (ev rfl)).mono ?_; rintro _ _ ⟨rfl, rfl⟩
    exact ⟨fun _ => rfl, Ext.refl _⟩
  refine RW_d _ rfl (fun v => by dsimp only [List.set]; try rfl) (fun u hu hF => ?_) (fun v26 => ?_)
  · have h8_ : v18 = (Bo β1) := hF.1
    have h15_ : β1 = false → v25 = (Bo (icmp .eql el1 el2)) := hF.2.1
    clear hF
    refine doesG_un rfl ?_
    skip
    obtain rfl := h8_
    refine (does_pick (b := β1) (u := (Bo true)) (v := v25) (ev rfl) (ev rfl) (ev rfl)).mono ?_; rintro _ _ ⟨rfl, rfl⟩; refine ⟨?_, Ext.refl _⟩; rw [hβ2]; skip
    cases hbb : β1
    all_goals first | (show _ = _; simp only [↓reduceIte, Bool.true_and, Bool.false_and, Bool.true_or, Bool.false_or, Bool.false_eq_true]; done) | (have e_ := h15_ hbb; subst e_; show _ = _; simp only [↓reduceIte, Bool.true_and, Bool.false_and, Bool.true_or, Bool.false_or, Bool.false_eq_true]; done) | rfl | (have e_ := h15_ hbb; subst e_; rfl) | (simp [hbb] at h15_ ⊢; first | done | rfl | (subst h15_; rfl) | simp_all) | (simp [hbb] at h15_ ⊢; done)
  refine RW_d _ rfl (fun v => by dsimp only [List.set]; try rfl) (fun u hu hF => ?_) (fun v27 => ?_)
  · have h16_ : v26 = (Bo β2) := hF.1
    clear hF
    refine doesG_un rfl ?_
    obtain rfl := h16_
    refine (does_move (u := (Bo β2)) (ev rfl)).mono ?_; rintro _ _ ⟨rfl, rfl⟩
    exact ⟨rfl, Ext.refl _⟩
  refine RW_d _ rfl (fun v => by dsimp only [List.set]; try rfl) (fun u hu hF => ?_) (fun v28 => ?_)
  · have h17_ : v27 = (Bo β2) := hF.1
    clear hF
    obtain rfl := h17_
    refine doesG_g (b := β2) rfl (yld rfl rfl) (fun hg1 => ?_) (fun hc => ⟨fun hg1 => absurd hg1 hc, Ext.refl _⟩)
    refine (does_move (u := (.slice p_t_ L_t_.length q_t_)) (ev rfl)).mono ?_; rintro _ _ ⟨rfl, rfl⟩
    exact ⟨fun _ => rfl, Ext.refl _⟩
  refine RW_d _ rfl (fun v => by dsimp only [List.set]; try rfl) (fun u hu hF => ?_) (fun v29 => ?_)
  · have h18_ : β2 = false → v28 = (.slice p_t_ L_t_.length q_t_) := hF.1
    have h17_ : v27 = (Bo β2) := hF.2.1
    clear hF
    obtain rfl := h17_
    refine doesG_g (b := β2) rfl (yld rfl rfl) (fun hg1 => ?_) (fun hc => ⟨fun hg1 => absurd hg1 hc, Ext.refl _⟩)
    obtain rfl := h18_ hg1
    refine (does_indexSl (R := RI) (i := 1) (xs := L_t_) (e := el2) Try.underlying44 Try.sizeOf2 (ev rfl) (ev rfl) (Sl.ext (Sl.ext hv_t_ RI.mono (Ext.gr X8 E12)) RI.mono hu) (by first | omega | (simp only [hβ1, hβ2, icmp, Bool.or_eq_false_iff, Bool.not_eq_false', Bool.not_eq_true', decide_eq_true_eq, decide_eq_false_iff_not, bne_eq_false_iff_eq] at hg1; omega) | (simp only [hβ1, hβ2, icmp, Bool.or_eq_false_iff, Bool.not_eq_false', Bool.not_eq_true', decide_eq_true_eq, decide_eq_false_iff_not, bne_eq_false_iff_eq] at hg1 hg2; omega)) (hel2 (by first | omega | (simp only [hβ1, hβ2, icmp, Bool.or_eq_false_iff, Bool.not_eq_false', Bool.not_eq_true', bne_eq_false_iff_eq] at hg1; omega)))).mono ?_; rintro v u' ⟨b, of, cs, hv, hc, hR, hu'⟩; subst hu'
    exact ⟨fun _ => ⟨b, of, cs, hv, hc, hR⟩, Ext.refl _⟩
  refine RW_d _ rfl (fun v => by dsimp only [List.set]; try rfl) (fun u hu hF => ?_) (fun v30 => ?_)
  · have h19_ : β2 = false → PtrR RI u v29 el2 := hF.1
    have h17_ : v27 = (Bo β2) := hF.2.1
    clear hF
    obtain rfl := h17_
    refine doesG_g (b := β2) rfl (yld rfl rfl) (fun hg1 => ?_) (fun hc => ⟨fun hg1 => absurd hg1 hc, Ext.refl _⟩)
    obtain ⟨b19_, o19_, _, rfl, hc19_, rfl⟩ := h19_ hg1
    refine (does_load (u := (Iv el2)) (ev rfl) Try.isAgg2 (Cells.at hc19_ 0 rfl)).mono ?_; rintro _ _ ⟨rfl, rfl⟩
    exact ⟨fun _ => rfl, Ext.refl _⟩
  refine RW_d _ rfl (fun v => by dsimp only [List.set]; try rfl) (fun u hu hF => ?_) (fun v31 => ?_)
  · have h17_ : v27 = (Bo β2) := hF.1
    clear hF
    obtain rfl := h17_
    refine doesG_g (b := β2) rfl (yld rfl rfl) (fun hg1 => ?_) (fun hc => ⟨fun hg1 => absurd hg1 hc, Ext.refl _⟩)
    refine (does_move (u := (.slice p_t_ L_t_.length q_t_)) (ev rfl)).mono ?_; rintro _ _ ⟨rfl, rfl⟩
    exact ⟨fun _ => rfl, Ext.refl _⟩
  refine RW_d _ rfl (fun v => by dsimp only [List.set]; try rfl) (fun u hu hF => ?_) (fun v32 => ?_)
  · have h21_ : β2 = false → v31 = (.slice p_t_ L_t_.length q_t_) := hF.1
    have h17_ : v27 = (Bo β2) := hF.2.1
    clear hF
    obtain rfl := h17_
    refine doesG_g (b := β2) rfl (yld rfl rfl) (fun hg1 => ?_) (fun hc => ⟨fun hg1 => absurd hg1 hc, Ext.refl _⟩)
    obtain rfl := h21_ hg1
    refine (does_indexSl (R := RI) (i := 2) (xs := L_t_) (e := el3) Try.underlying44 Try.sizeOf2 (ev rfl) (ev rfl) (Sl.ext (Sl.ext hv_t_ RI.mono (Ext.gr X8 E12)) RI.mono hu) (by first | omega | (simp only [hβ1, hβ2, icmp, Bool.or_eq_false_iff, Bool.not_eq_false', Bool.not_eq_true', decide_eq_true_eq, decide_eq_false_iff_not, bne_eq_false_iff_eq] at hg1; omega) | (simp only [hβ1, hβ2, icmp, Bool.or_eq_false_iff, Bool.not_eq_false', Bool.not_eq_true', decide_eq_true_eq, decide_eq_false_iff_not, bne_eq_false_iff_eq] at hg1 hg2; omega)) (hel3 (by first | omega | (simp only [hβ1, hβ2, icmp, Bool.or_eq_false_iff, Bool.not_eq_false', Bool.not_eq_true', bne_eq_false_iff_eq] at hg1; omega)))).mono ?_; rintro v u' ⟨b, of, cs, hv, hc, hR, hu'⟩; subst hu'
    exact ⟨fun _ => ⟨b, of, cs, hv, hc, hR⟩, Ext.refl _⟩
  refine RW_d _ rfl (fun v => by dsimp only [List.set]; try rfl) (fun u hu hF => ?_) (fun v33 => ?_)
  · have h22_ : β2 = false → PtrR RI u v32 el3 := hF.1
    have h17_ : v27 = (Bo β2) := hF.2.1
    clear hF
    obtain rfl := h17_
    refine doesG_g (b := β2) rfl (yld rfl rfl) (fun hg1 => ?_) (fun hc => ⟨fun hg1 => absurd hg1 hc, Ext.refl _⟩)
    obtain ⟨b22_, o22_, _, rfl, hc22_, rfl⟩ := h22_ hg1
    refine (does_load (u := (Iv el3)) (ev rfl) Try.isAgg2 (Cells.at hc22_ 0 rfl)).mono ?_; rintro _ _ ⟨rfl, rfl⟩
    exact ⟨fun _ => rfl, Ext.refl _⟩
  refine RW_d _ rfl (fun v => by dsimp only [List.set]; try rfl) (fun u hu hF => ?_) (fun v34 => ?_)
  · have h20_ : β2 = false → v30 = (Iv el2) := hF.1
    have h23_ : β2 = false → v33 = (Iv el3) := hF.2.1
    have h17_ : v27 = (Bo β2) := hF.2.2.1
    clear hF
    obtain rfl := h17_
    refine doesG_g (b := β2) rfl (yld rfl rfl) (fun hg1 => ?_) (fun hc => ⟨fun hg1 => absurd hg1 hc, Ext.refl _⟩)
    obtain rfl := h20_ hg1
    obtain rfl := h23_ hg1
    refine (does_icmp (p := el2) (q := el3) (.inl rfl) (ev rfl) (ev rfl)).mono ?_; rintro _ _ ⟨rfl, rfl⟩
    exact ⟨fun _ => rfl, Ext.refl _⟩
  refine RW_d _ rfl (fun v => by dsimp only [List.set]; try rfl) (fun u hu hF => ?_) (fun v35 => ?_)
  · have h17_ : v27 = (Bo β2) := hF.1
    have h24_ : β2 = false → v34 = (Bo (icmp .eql el2 el3)) := hF.2.1
    clear hF
    refine doesG_un rfl ?_
    skip
    obtain rfl := h17_
    refine (does_pick (b := β2) (u := (Bo true)) (v := v34) (ev rfl) (ev rfl) (ev rfl)).mono ?_; rintro _ _ ⟨rfl, rfl⟩; refine ⟨?_, Ext.refl _⟩; rw [hβ3]; skip
    cases hbb : β2
    all_goals first | (show _ = _; simp only [↓reduceIte, Bool.true_and, Bool.false_and, Bool.true_or, Bool.false_or, Bool.false_eq_true]; done) | (have e_ := h24_ hbb; subst e_; show _ = _; simp only [↓reduceIte, Bool.true_and, Bool.false_and, Bool.true_or, Bool.false_or, Bool.false_eq_true]; done) | rfl | (have e_ := h24_ hbb; subst e_; rfl) | (simp [hbb] at h24_ ⊢; first | done | rfl | (subst h24_; rfl) | simp_all) | (simp [hbb] at h24_ ⊢; done)
  refine RW_d _ rfl (fun v => by dsimp only [List.set]; try rfl) (fun u hu hF => ?_) (fun v36 => ?_)
  · have h25_ : v35 = (Bo β3) := hF.1
    clear hF
    refine doesG_un rfl ?_
    obtain rfl := h25_
    refine (does_move (u := (Bo β3)) (ev rfl)).mono ?_; rintro _ _ ⟨rfl, rfl⟩
    exact ⟨rfl, Ext.refl _⟩
  refine RW_d _ rfl (fun v => by dsimp only [List.set]; try rfl) (fun u hu hF => ?_) (fun v37 => ?_)
  · have h26_ : v36 = (Bo β3) := hF.1
    clear hF
    obtain rfl := h26_
    refine doesG_g (b := β3) rfl (yld rfl rfl) (fun hg1 => ?_) (fun hc => ⟨fun hg1 => absurd hg1 hc, Ext.refl _⟩)
    refine (does_move (u := (.slice p_t_ L_t_.length q_t_)) (ev rfl)).mono ?_; rintro _ _ ⟨rfl, rfl⟩
    exact ⟨fun _ => rfl, Ext.refl _⟩
  refine RW_d _ rfl (fun v => by dsimp only [List.set]; try rfl) (fun u hu hF => ?_) (fun v38 => ?_)
  · have h27_ : β3 = false → v37 = (.slice p_t_ L_t_.length q_t_) := hF.1
    have h26_ : v36 = (Bo β3) := hF.2.1
    clear hF
    obtain rfl := h26_
    refine doesG_g (b := β3) rfl (yld rfl rfl) (fun hg1 => ?_) (fun hc => ⟨fun hg1 => absurd hg1 hc, Ext.refl _⟩)
    obtain rfl := h27_ hg1
    refine (does_indexSl (R := RI) (i := 2) (xs := L_t_) (e := el3) Try.underlying44 Try.sizeOf2 (ev rfl) (ev rfl) (Sl.ext (Sl.ext hv_t_ RI.mono (Ext.gr X8 E12)) RI.mono hu) (by first | omega | (simp only [hβ1, hβ2, hβ3, icmp, Bool.or_eq_false_iff, Bool.not_eq_false', Bool.not_eq_true', decide_eq_true_eq, decide_eq_false_iff_not, bne_eq_false_iff_eq] at hg1; omega) | (simp only [hβ1, hβ2, hβ3, icmp, Bool.or_eq_false_iff, Bool.not_eq_false', Bool.not_eq_true', decide_eq_true_eq, decide_eq_false_iff_not, bne_eq_false_iff_eq] at hg1 hg2; omega)) (hel3 (by first | omega | (simp only [hβ1, hβ2, hβ3, icmp, Bool.or_eq_false_iff, Bool.not_eq_false', Bool.not_eq_true', bne_eq_false_iff_eq] at hg1; omega)))).mono ?_; rintro v u' ⟨b, of, cs, hv, hc, hR, hu'⟩; subst hu'
    exact ⟨fun _ => ⟨b, of, cs, hv, hc, hR⟩, Ext.refl _⟩
  refine RW_d _ rfl (fun v => by dsimp only [List.set]; try rfl) (fun u hu hF => ?_) (fun v39 => ?_)
  · have h28_ : β3 = false → PtrR RI u v38 el3 := hF.1
    have h26_ : v36 = (Bo β3) := hF.2.1
    clear hF
    obtain rfl := h26_
    refine doesG_g (b := β3) rfl (yld rfl rfl) (fun hg1 => ?_) (fun hc => ⟨fun hg1 => absurd hg1 hc, Ext.refl _⟩)
    obtain ⟨b28_, o28_, _, rfl, hc28_, rfl⟩ := h28_ hg1
    refine (does_load (u := (Iv el3)) (ev rfl) Try.isAgg2 (Cells.at hc28_ 0 rfl)).mono ?_; rintro _ _ ⟨rfl, rfl⟩
    exact ⟨fun _ => rfl, Ext.refl _⟩
  refine RW_d _ rfl (fun v => by dsimp only [List.set]; try rfl) (fun u hu hF => ?_) (fun v40 => ?_)
  · have h26_ : v36 = (Bo β3) := hF.1
    clear hF
    obtain rfl := h26_
    refine doesG_g (b := β3) rfl (yld rfl rfl) (fun hg1 => ?_) (fun hc => ⟨fun hg1 => absurd hg1 hc, Ext.refl _⟩)
    refine (does_move (u := (.slice p_t_ L_t_.length q_t_)) (ev rfl)).mono ?_; rintro _ _ ⟨rfl, rfl⟩
    exact ⟨fun _ => rfl, Ext.refl _⟩
  refine RW_d _ rfl (fun v => by dsimp only [List.set]; try rfl) (fun u hu hF => ?_) (fun v41 => ?_)
  · have h30_ : β3 = false → v40 = (.slice p_t_ L_t_.length q_t_) := hF.1
    have h26_ : v36 = (Bo β3) := hF.2.1
    clear hF
    obtain rfl := h26_
    refine doesG_g (b := β3) rfl (yld rfl rfl) (fun hg1 => ?_) (fun hc => ⟨fun hg1 => absurd hg1 hc, Ext.refl _⟩)
    obtain rfl := h30_ hg1
    refine (does_indexSl (R := RI) (i := 0) (xs := L_t_) (e := el1) Try.underlying44 Try.sizeOf2 (ev rfl) (ev rfl) (Sl.ext (Sl.ext hv_t_ RI.mono (Ext.gr X8 E12)) RI.mono hu) (by first | omega | (simp only [hβ1, hβ2, hβ3, icmp, Bool.or_eq_false_iff, Bool.not_eq_false', Bool.not_eq_true', decide_eq_true_eq, decide_eq_false_iff_not, bne_eq_false_iff_eq] at hg1; omega) | (simp only [hβ1, hβ2, hβ3, icmp, Bool.or_eq_false_iff, Bool.not_eq_false', Bool.not_eq_true', decide_eq_true_eq, decide_eq_false_iff_not, bne_eq_false_iff_eq] at hg1 hg2; omega)) (hel1 (by first | omega | (simp only [hβ1, hβ2, hβ3, icmp, Bool.or_eq_false_iff, Bool.not_eq_false', Bool.not_eq_true', bne_eq_false_iff_eq] at hg1; omega)))).mono ?_; rintro v u' ⟨b, of, cs, hv, hc, hR, hu'⟩; subst hu'
    exact ⟨fun _ => ⟨b, of, cs, hv, hc, hR⟩, Ext.refl _⟩
  refine RW_d _ rfl (fun v => by dsimp only [List.set]; try rfl) (fun u hu hF => ?_) (fun v42 => ?_)
  · have h31_ : β3 = false → PtrR RI u v41 el1 := hF.1
    have h26_ : v36 = (Bo β3) := hF.2.1
    clear hF
    obtain rfl := h26_
    refine doesG_g (b := β3) rfl (yld rfl rfl) (fun hg1 => ?_) (fun hc => ⟨fun hg1 => absurd hg1 hc, Ext.refl _⟩)
    obtain ⟨b31_, o31_, _, rfl, hc31_, rfl⟩ := h31_ hg1
    refine (does_load (u := (Iv el1)) (ev rfl) Try.isAgg2 (Cells.at hc31_ 0 rfl)).mono ?_; rintro _ _ ⟨rfl, rfl⟩
    exact ⟨fun _ => rfl, Ext.refl _⟩
  refine RW_d _ rfl (fun v => by dsimp only [List.set]; try rfl) (fun u hu hF => ?_) (fun v43 => ?_)
  · have h29_ : β3 = false → v39 = (Iv el3) := hF.1
    have h32_ : β3 = false → v42 = (Iv el1) := hF.2.1
    have h26_ : v36 = (Bo β3) := hF.2.2.1
    clear hF
    obtain rfl := h26_
    refine doesG_g (b := β3) rfl (yld rfl rfl) (fun hg1 => ?_) (fun hc => ⟨fun hg1 => absurd hg1 hc, Ext.refl _⟩)
    obtain rfl := h29_ hg1
    obtain rfl := h32_ hg1
    refine (does_icmp (p := el3) (q := el1) (.inl rfl) (ev rfl) (ev rfl)).mono ?_; rintro _ _ ⟨rfl, rfl⟩
    exact ⟨fun _ => rfl, Ext.refl _⟩
  refine RW_d _ rfl (fun v => by dsimp only [List.set]; try rfl) (fun u hu hF => ?_) (fun v44 => ?_)
  · have h26_ : v36 = (Bo β3) := hF.1
    have h33_ : β3 = false → v43 = (Bo (icmp .eql el3 el1)) := hF.2.1
    clear hF
    refine doesG_un rfl ?_
    skip
    obtain rfl := h26_
    refine (does_pick (b := β3) (u := (Bo true)) (v := v43) (ev rfl) (ev rfl) (ev rfl)).mono ?_; rintro _ _ ⟨rfl, rfl⟩; refine ⟨?_, Ext.refl _⟩; rw [hβ4]; skip
    cases hbb : β3
    all_goals first | (show _ = _; simp only [↓reduceIte, Bool.true_and, Bool.false_and, Bool.true_or, Bool.false_or, Bool.false_eq_true]; done) | (have e_ := h33_ hbb; subst e_; show _ = _; simp only [↓reduceIte, Bool.true_and, Bool.false_and, Bool.true_or, Bool.false_or, Bool.false_eq_true]; done) | rfl | (have e_ := h33_ hbb; subst e_; rfl) | (simp [hbb] at h33_ ⊢; first | done | rfl | (subst h33_; rfl) | simp_all) | (simp [hbb] at h33_ ⊢; done)
  refine RW_fin ?_; intro w45 E46 hP47
  obtain ⟨⟨⟨⟨⟨⟨⟨⟨⟨⟨⟨⟨⟨⟨⟨⟨⟨⟨⟨⟨⟨⟨⟨⟨⟨⟨⟨⟨⟨⟨-, -⟩, -⟩, -⟩, -⟩, -⟩, -⟩, -⟩, -⟩, -⟩, -⟩, -⟩, -⟩, -⟩, -⟩, -⟩, -⟩, -⟩, -⟩, -⟩, -⟩, -⟩, -⟩, -⟩, -⟩, -⟩, -⟩, -⟩, -⟩, -⟩, q48⟩ := hP47
  have X49 := Ext.gr X14 E46
  have q48 : v44 = (Bo β4) := q48
  obtain rfl := q48
  show wpList _ _ _ _ (fr [_, _, _, _, _, _, _, _, _, _, _, _, _, _, _, _, _, _, _, _, _, _, _, _, _, _, _, _, _, _, _, _, _, _, _, _, _, _, _]) _
  refine wpList_nil (hK10 _ _ ?_)
  refine wp_cond_split (t := β4) (ev rfl) (fun c50 => ?_) (fun c50 => ?_)
  · have c50' := c50
    (try simp only [hβ1, hβ2, hβ3, hβ4] at c50')
    (try simp only [icmp, Bool.and_eq_true, Bool.or_eq_true, Bool.and_eq_false_iff, Bool.or_eq_false_iff, Bool.not_eq_true', Bool.not_eq_false', decide_eq_true_eq, decide_eq_false_iff_not, beq_iff_eq, bne_iff_ne, beq_eq_false_iff_ne, bne_eq_false_iff_eq] at c50')
    refine wp_seq_k fun K51 hK51 => ?_
    refine wp_region_lit ?_
    refine q_is rfl rfl (does_assign (u := (Bo false)) (ev rfl)) (by dsimp only [List.set]; try rfl) ?_
    refine wpList_nil (hK51 _ _ ?_)
    refine wp_ret ?_
    dsimp only [Exit.then, Exit.inBlock]
    refine ret_val (v := (Bo false)) (res_T rfl (slot rfl)) X49 ?_
    try simp only [hβ1, hβ2, hβ3, hβ4] at c50
    have x52 : (triOk n_ L_t_) = false := by first | exact triOk_bad (by assumption) (by assumption) (by assumption) (by assumption) | exact triOk_any (by assumption) (by assumption) (by assumption) (by assumption)
    exact (by first | with_reducible rfl | rw [x52] | rfl)
  have c50' := c50
  (try simp only [hβ1, hβ2, hβ3, hβ4] at c50')
  (try simp only [icmp, Bool.and_eq_true, Bool.or_eq_true, Bool.and_eq_false_iff, Bool.or_eq_false_iff, Bool.not_eq_true', Bool.not_eq_false', decide_eq_true_eq, decide_eq_false_iff_not, beq_iff_eq, bne_iff_ne, beq_eq_false_iff_ne, bne_eq_false_iff_eq] at c50')
  refine wp_skip (hK9 _ _ ?_)
  refine wp_seq_k fun K53 hK53 => ?_
  refine wp_region_lit ?_
  refine q_is rfl rfl (does_move (u := (.slice p_t_ L_t_.length q_t_)) (ev rfl)) (by dsimp only [List.set]; try rfl) ?_
  refine q_is rfl rfl (does_makeFunc (u := (.func (.func 58) #[] #[(Pt b2 0)])) (evs rfl) (evs rfl) rfl) (by dsimp only [List.set]; try rfl) ?_
  refine seqd rfl rfl (does_call (args := #[(.slice p_t_ L_t_.length q_t_), (.func (.func 58) #[] #[(Pt b2 0)])]) cal57 (evs rfl) (c_slices_ContainsFunc_int64_int64 (.slice p_t_ L_t_.length q_t_) L_t_ (.func (.func 58) #[] #[(Pt b2 0)]) (fun x => !inI x 0 (IntKind.i64.wrap (n_ - 1))) _ (Sl.ext hv_t_ RI.mono X49) ⟨58, #[], #[(Pt b2 0)], rfl, cal58, fun n0 u hu'  => by simpa using (c_impl_isTriangle_1 n0 b2 0 n_ u (Blk.cells (((hB4.ext E12).ext E46).ext hu')))⟩)) ?_; rintro _ w55 ⟨E54, rfl⟩
  have X56 := Ext.gr X49 E54
  show wpList _ _ _ _ (fr [_, _, _, _, _, _, _, _, _, _, _, _, _, _, _, _, _, _, _, _, _, _, _, _, _, _, _, _, _, _, _, _, _, _, _, _, _, _, _]) _
  refine q_is rfl rfl (does_not (ev rfl)) (by dsimp only [List.set]; try rfl) ?_
  refine q_is rfl rfl (does_assign (u := (Bo (!(L_t_.any (fun x => !inI x 0 (IntKind.i64.wrap (n_ - 1))))))) (ev rfl)) (by dsimp only [List.set]; try rfl) ?_
  refine wpList_nil (hK53 _ _ ?_)
  refine wp_ret ?_
  refine ret_val (v := (Bo (!(L_t_.any (fun x => !inI x 0 (IntKind.i64.wrap (n_ - 1))))))) (res_T rfl (slot rfl)) X56 ?_
  try simp only [hβ1, hβ2, hβ3, hβ4] at c50
  have x57 : (triOk n_ L_t_) = (!(L_t_.any (fun x => !inI x 0 (IntKind.i64.wrap (n_ - 1))))) := by first | exact triOk_bad (by assumption) (by assumption) (by assumption) (by assumption) | exact triOk_any (by assumption) (by assumption) (by assumption) (by assumption)
  exact (by first | with_reducible rfl | rw [x57] | rfl)

end Go.Proofs.Ythfpgnjeahddaaa
