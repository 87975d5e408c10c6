/- contracts of functions, each walked once -/
import Derived.Test.YtodelpmhbdaocaaP
namespace Go.Proofs.Ytodelpmhbdaocaa
open Go Go.RowKit
set_option maxRecDepth 100000
set_option maxHeartbeats 3200000
set_option linter.unusedVariables false
set_option linter.unusedSimpArgs false

/- impl.sameNode -/
theorem c_impl_sameNode (x_ : List Value) (A_x_ : NodeT) (y_ : List Value) (A_y_ : NodeT) (w : World) (hv_x_ : RNodeT w A_x_ x_) (hv_y_ : RNodeT w A_y_ y_) : Gives Try.prog 31 #[(.agg x_.toArray), (.agg y_.toArray)] w (fun v w' => v = (Bo (sNode sameN A_x_ A_y_))) := by
  obtain ⟨y1, rfl, h2⟩ := hv_x_
  obtain ⟨y3, rfl, h4⟩ := hv_y_
  have hs7 := h2; have hs7l := Sl.len h2; obtain ⟨p5, q6, rfl⟩ := Sl.shape h2
  have hs10 := h4; have hs10l := Sl.len h4; obtain ⟨p8, q9, rfl⟩ := Sl.shape h4
  refine enter [(.agg #[(Iv A_x_.kind), (Iv A_x_.a), (Iv A_x_.b), (.slice p5 A_x_.nums.length q6)]), (.agg #[(Iv A_y_.kind), (Iv A_y_.a), (Iv A_y_.b), (.slice p8 A_y_.nums.length q9)]), Ud, Ud, Ud, Ud, Ud, Ud, Ud, Ud, Ud, Ud, Ud, Ud, Ud, Ud, Ud, Ud, Ud, Ud, Ud, Ud, Ud, Ud, Ud, Ud, Ud, Ud, Ud, Ud, Ud] Try.func31 rfl Try.ntmps31 rfl ?_
  refine wp_seq_k fun K11 hK11 => ?_
  refine wp_region_lit ?_
  refine seqd rfl rfl (does_box (u := (.agg #[(Iv A_x_.kind), (Iv A_x_.a), (Iv A_x_.b), (.slice p5 A_x_.nums.length q6)])) (ev rfl)) ?_; rintro _ w16 ⟨b12, rfl, hb13, hB14, E15⟩
  have g17 : w.heap.size ≤ b12 := Nat.le_trans (Below.size (Ext.refl w)) hb13
  change Blk _ _ [(Iv A_x_.kind), (Iv A_x_.a), (Iv A_x_.b), (.slice p5 A_x_.nums.length q6)] at hB14
  have X18 := Ext.gr (Ext.refl w) E15
  show wpList _ _ _ _ (fr [(.agg #[(Iv A_x_.kind), (Iv A_x_.a), (Iv A_x_.b), (.slice p5 A_x_.nums.length q6)]), (.agg #[(Iv A_y_.kind), (Iv A_y_.a), (Iv A_y_.b), (.slice p8 A_y_.nums.length q9)]), (Pt b12 0), Ud, Ud, Ud, Ud, Ud, Ud, Ud, Ud, Ud, Ud, Ud, Ud, Ud, Ud, Ud, Ud, Ud, Ud, Ud, Ud, Ud, Ud, Ud, Ud, Ud, Ud, Ud, Ud]) _
  refine seqd rfl rfl (does_box (u := (.agg #[(Iv A_y_.kind), (Iv A_y_.a), (Iv A_y_.b), (.slice p8 A_y_.nums.length q9)])) (ev rfl)) ?_; rintro _ w23 ⟨b19, rfl, hb20, hB21, E22⟩
  have n24 : b12 < b19 := Nat.lt_of_lt_of_le (Blk.lt hB14) hb20
  have g25 : w.heap.size ≤ b19 := Nat.le_trans (Below.size X18) hb20
  change Blk _ _ [(Iv A_y_.kind), (Iv A_y_.a), (Iv A_y_.b), (.slice p8 A_y_.nums.length q9)] at hB21
  have X26 := Ext.gr X18 E22
  show wpList _ _ _ _ (fr [(.agg #[(Iv A_x_.kind), (Iv A_x_.a), (Iv A_x_.b), (.slice p5 A_x_.nums.length q6)]), (.agg #[(Iv A_y_.kind), (Iv A_y_.a), (Iv A_y_.b), (.slice p8 A_y_.nums.length q9)]), (Pt b12 0), (Pt b19 0), Ud, Ud, Ud, Ud, Ud, Ud, Ud, Ud, Ud, Ud, Ud, Ud, Ud, Ud, Ud, Ud, Ud, Ud, Ud, Ud, Ud, Ud, Ud, Ud, Ud, Ud, Ud]) _
  refine q_is rfl rfl (does_assign (u := (Bo false)) (ev rfl)) (by dsimp only [List.set]; try rfl) ?_
  refine wpList_nil (hK11 _ _ ?_)
  refine wp_seq_k fun K27 hK27 => ?_
  obtain ⟨β1, hβ1⟩ : ∃ b : Bool, b = (icmp .eql A_x_.kind A_y_.kind) := ⟨_, rfl⟩
  obtain ⟨β2, hβ2⟩ : ∃ b : Bool, b = (β1 && (icmp .eql A_x_.a A_y_.a)) := ⟨_, rfl⟩
  obtain ⟨β3, hβ3⟩ : ∃ b : Bool, b = (β2 && (icmp .eql A_x_.b A_y_.b)) := ⟨_, rfl⟩
  obtain ⟨β4, hβ4⟩ : ∃ b : Bool, b = (sameX sameN A_x_.nums A_y_.nums) := ⟨_, rfl⟩
  refine region_text (
    [Fact.pure [] (fun v => v = (Pt b12 0)),
    Fact.pure [5] (fun v => v = (Iv A_x_.kind)),
    Fact.pure [] (fun v => v = (Pt b19 0)),
    Fact.pure [7] (fun v => v = (Iv A_y_.kind)),
    Fact.pure [6, 8] (fun v => v = (Bo β1)),
    Fact.pure [9] (fun v => v = (Bo β1)),
    Fact.pure [10] (fun v => β1 = true → v = (Pt b12 1)),
    Fact.pure [11, 10] (fun v => β1 = true → v = (Iv A_x_.a)),
    Fact.pure [10] (fun v => β1 = true → v = (Pt b19 1)),
    Fact.pure [13, 10] (fun v => β1 = true → v = (Iv A_y_.a)),
    Fact.pure [12, 14, 10] (fun v => β1 = true → v = (Bo (icmp .eql A_x_.a A_y_.a))),
    Fact.pure [10, 15] (fun v => v = (Bo β2)),
    Fact.pure [16] (fun v => v = (Bo β2)),
    Fact.pure [17] (fun v => β2 = true → v = (Pt b12 2)),
    Fact.pure [18, 17] (fun v => β2 = true → v = (Iv A_x_.b)),
    Fact.pure [17] (fun v => β2 = true → v = (Pt b19 2)),
    Fact.pure [20, 17] (fun v => β2 = true → v = (Iv A_y_.b)),
    Fact.pure [19, 21, 17] (fun v => β2 = true → v = (Bo (icmp .eql A_x_.b A_y_.b))),
    Fact.pure [17, 22] (fun v => v = (Bo β3)),
    Fact.pure [23] (fun v => v = (Bo β3)),
    Fact.pure [24] (fun v => β3 = true → v = (Pt b12 3)),
    Fact.pure [25, 24] (fun v => β3 = true → v = (.slice p5 A_x_.nums.length q6)),
    Fact.pure [24] (fun v => β3 = true → v = (Pt b19 3)),
    Fact.pure [27, 24] (fun v => β3 = true → v = (.slice p8 A_y_.nums.length q9)),
    Fact.pure [26, 28, 24] (fun v => β3 = true → v = (Bo β4)),
    Fact.pure [24, 29] (fun v => v = (Bo (β3 && β4)))]) (by simp [Fact.pure, Fact.mem]) ?_
  refine RW_d _ rfl (fun v => by dsimp only [List.set]; try rfl) (fun u hu hF => ?_) (fun v28 => ?_)
  · clear hF
    refine doesG_un rfl ?_
    refine (does_fieldAddr (ev rfl) fa37_0).mono ?_; rintro _ _ ⟨rfl, rfl⟩
    exact ⟨rfl, Ext.refl _⟩
  refine RW_d _ rfl (fun v => by dsimp only [List.set]; try rfl) (fun u hu hF => ?_) (fun v29 => ?_)
  · have h5_ : v28 = (Pt b12 0) := hF.1
    clear hF
    refine doesG_un rfl ?_
    obtain rfl := h5_
    refine (does_load (u := (Iv A_x_.kind)) (ev rfl) Try.isAgg2 (Cells.at (Blk.cells ((hB14.ext E22).ext hu)) 0 rfl)).mono ?_; rintro _ _ ⟨rfl, rfl⟩
    exact ⟨rfl, Ext.refl _⟩
  refine RW_d _ rfl (fun v => by dsimp only [List.set]; try rfl) (fun u hu hF => ?_) (fun v30 => ?_)
  · clear hF
    refine doesG_un rfl ?_
    refine (does_fieldAddr (ev rfl) fa37_0).mono ?_; rintro _ _ ⟨rfl, rfl⟩
    exact ⟨rfl, Ext.refl _⟩
  refine RW_d _ rfl (fun v => by dsimp only [List.set]; try rfl) (fun u hu hF => ?_) (fun v31 => ?_)
  · have h7_ : v30 = (Pt b19 0) := hF.1
    clear hF
    refine doesG_un rfl ?_
    obtain rfl := h7_
    refine (does_load (u := (Iv A_y_.kind)) (ev rfl) Try.isAgg2 (Cells.at (Blk.cells (hB21.ext hu)) 0 rfl)).mono ?_; rintro _ _ ⟨rfl, rfl⟩
    exact ⟨rfl, Ext.refl _⟩
  refine RW_d _ rfl (fun v => by dsimp only [List.set]; try rfl) (fun u hu hF => ?_) (fun v32 => ?_)
  · have h6_ : v29 = (Iv A_x_.kind) := hF.1
    have h8_ : v31 = (Iv A_y_.kind) := hF.2.1
    clear hF
    refine doesG_un rfl ?_
    obtain rfl := h6_
    obtain rfl := h8_
    refine (does_icmp (p := A_x_.kind) (q := A_y_.kind) (.inl rfl) (ev rfl) (ev rfl)).mono ?_; rintro _ _ ⟨rfl, rfl⟩
    exact ⟨(by first | rfl | (show _ = _; simp only [hβ1])), Ext.refl _⟩
  refine RW_d _ rfl (fun v => by dsimp only [List.set]; try rfl) (fun u hu hF => ?_) (fun v33 => ?_)
  · have h9_ : v32 = (Bo β1) := hF.1
    clear hF
    refine doesG_un rfl ?_
    obtain rfl := h9_
    refine (does_move (u := (Bo β1)) (ev rfl)).mono ?_; rintro _ _ ⟨rfl, rfl⟩
    exact ⟨rfl, Ext.refl _⟩
  refine RW_d _ rfl (fun v => by dsimp only [List.set]; try rfl) (fun u hu hF => ?_) (fun v34 => ?_)
  · have h10_ : v33 = (Bo β1) := hF.1
    clear hF
    obtain rfl := h10_
    refine doesG_g (b := β1) rfl (yld rfl rfl) (fun hg1 => ?_) (fun hc => ⟨fun hg1 => absurd hg1 hc, Ext.refl _⟩)
    refine (does_fieldAddr (ev rfl) fa37_1).mono ?_; rintro _ _ ⟨rfl, rfl⟩
    exact ⟨fun _ => rfl, Ext.refl _⟩
  refine RW_d _ rfl (fun v => by dsimp only [List.set]; try rfl) (fun u hu hF => ?_) (fun v35 => ?_)
  · have h11_ : β1 = true → v34 = (Pt b12 1) := hF.1
    have h10_ : v33 = (Bo β1) := hF.2.1
    clear hF
    obtain rfl := h10_
    refine doesG_g (b := β1) rfl (yld rfl rfl) (fun hg1 => ?_) (fun hc => ⟨fun hg1 => absurd hg1 hc, Ext.refl _⟩)
    obtain rfl := h11_ hg1
    refine (does_load (u := (Iv A_x_.a)) (ev rfl) Try.isAgg2 (Cells.at (Blk.cells ((hB14.ext E22).ext hu)) 1 rfl)).mono ?_; rintro _ _ ⟨rfl, rfl⟩
    exact ⟨fun _ => rfl, Ext.refl _⟩
  refine RW_d _ rfl (fun v => by dsimp only [List.set]; try rfl) (fun u hu hF => ?_) (fun v36 => ?_)
  · have h10_ : v33 = (Bo β1) := hF.1
    clear hF
    obtain rfl := h10_
    refine doesG_g (b := β1) rfl (yld rfl rfl) (fun hg1 => ?_) (fun hc => ⟨fun hg1 => absurd hg1 hc, Ext.refl _⟩)
    refine (does_fieldAddr (ev rfl) fa37_1).mono ?_; rintro _ _ ⟨rfl, rfl⟩
    exact ⟨fun _ => rfl, Ext.refl _⟩
  refine RW_d _ rfl (fun v => by dsimp only [List.set]; try rfl) (fun u hu hF => ?_) (fun v37 => ?_)
  · have h13_ : β1 = true → v36 = (Pt b19 1) := hF.1
    have h10_ : v33 = (Bo β1) := hF.2.1
    clear hF
    obtain rfl := h10_
    refine doesG_g (b := β1) rfl (yld rfl rfl) (fun hg1 => ?_) (fun hc => ⟨fun hg1 => absurd hg1 hc, Ext.refl _⟩)
    obtain rfl := h13_ hg1
    refine (does_load (u := (Iv A_y_.a)) (ev rfl) Try.isAgg2 (Cells.at (Blk.cells (hB21.ext hu)) 1 rfl)).mono ?_; rintro _ _ ⟨rfl, rfl⟩
    exact ⟨fun _ => rfl, Ext.refl _⟩
  refine RW_d _ rfl (fun v => by dsimp only [List.set]; try rfl) (fun u hu hF => ?_) (fun v38 => ?_)
  · have h12_ : β1 = true → v35 = (Iv A_x_.a) := hF.1
    have h14_ : β1 = true → v37 = (Iv A_y_.a) := hF.2.1
    have h10_ : v33 = (Bo β1) := hF.2.2.1
    clear hF
    obtain rfl := h10_
    refine doesG_g (b := β1) rfl (yld rfl rfl) (fun hg1 => ?_) (fun hc => ⟨fun hg1 => absurd hg1 hc, Ext.refl _⟩)
    obtain rfl := h12_ hg1
    obtain rfl := h14_ hg1
    refine (does_icmp (p := A_x_.a) (q := A_y_.a) (.inl rfl) (ev rfl) (ev rfl)).mono ?_; rintro _ _ ⟨rfl, rfl⟩
    exact ⟨fun _ => rfl, Ext.refl _⟩
  refine RW_d _ rfl (fun v => by dsimp only [List.set]; try rfl) (fun u hu hF => ?_) (fun v39 => ?_)
  · have h10_ : v33 = (Bo β1) := hF.1
    have h15_ : β1 = true → v38 = (Bo (icmp .eql A_x_.a A_y_.a)) := hF.2.1
    clear hF
    refine doesG_un rfl ?_
    skip
    obtain rfl := h10_
    refine (does_pick (b := β1) (ev rfl) (ev rfl) (ev rfl)).mono ?_; rintro _ _ ⟨rfl, rfl⟩; refine ⟨?_, Ext.refl _⟩; rw [hβ2]; skip
    cases hbb : β1 <;> simp [hbb] at h15_ ⊢
    all_goals (first | rfl | (subst h15_; rfl) | simp_all)
  refine RW_d _ rfl (fun v => by dsimp only [List.set]; try rfl) (fun u hu hF => ?_) (fun v40 => ?_)
  · have h16_ : v39 = (Bo β2) := hF.1
    clear hF
    refine doesG_un rfl ?_
    obtain rfl := h16_
    refine (does_move (u := (Bo β2)) (ev rfl)).mono ?_; rintro _ _ ⟨rfl, rfl⟩
    exact ⟨rfl, Ext.refl _⟩
  refine RW_d _ rfl (fun v => by dsimp only [List.set]; try rfl) (fun u hu hF => ?_) (fun v41 => ?_)
  · have h17_ : v40 = (Bo β2) := hF.1
    clear hF
    obtain rfl := h17_
    refine doesG_g (b := β2) rfl (yld rfl rfl) (fun hg1 => ?_) (fun hc => ⟨fun hg1 => absurd hg1 hc, Ext.refl _⟩)
    refine (does_fieldAddr (ev rfl) fa37_2).mono ?_; rintro _ _ ⟨rfl, rfl⟩
    exact ⟨fun _ => rfl, Ext.refl _⟩
  refine RW_d _ rfl (fun v => by dsimp only [List.set]; try rfl) (fun u hu hF => ?_) (fun v42 => ?_)
  · have h18_ : β2 = true → v41 = (Pt b12 2) := hF.1
    have h17_ : v40 = (Bo β2) := hF.2.1
    clear hF
    obtain rfl := h17_
    refine doesG_g (b := β2) rfl (yld rfl rfl) (fun hg1 => ?_) (fun hc => ⟨fun hg1 => absurd hg1 hc, Ext.refl _⟩)
    obtain rfl := h18_ hg1
    refine (does_load (u := (Iv A_x_.b)) (ev rfl) Try.isAgg2 (Cells.at (Blk.cells ((hB14.ext E22).ext hu)) 2 rfl)).mono ?_; rintro _ _ ⟨rfl, rfl⟩
    exact ⟨fun _ => rfl, Ext.refl _⟩
  refine RW_d _ rfl (fun v => by dsimp only [List.set]; try rfl) (fun u hu hF => ?_) (fun v43 => ?_)
  · have h17_ : v40 = (Bo β2) := hF.1
    clear hF
    obtain rfl := h17_
    refine doesG_g (b := β2) rfl (yld rfl rfl) (fun hg1 => ?_) (fun hc => ⟨fun hg1 => absurd hg1 hc, Ext.refl _⟩)
    refine (does_fieldAddr (ev rfl) fa37_2).mono ?_; rintro _ _ ⟨rfl, rfl⟩
    exact ⟨fun _ => rfl, Ext.refl _⟩
  refine RW_d _ rfl (fun v => by dsimp only [List.set]; try rfl) (fun u hu hF => ?_) (fun v44 => ?_)
  · have h20_ : β2 = true → v43 = (Pt b19 2) := hF.1
    have h17_ : v40 = (Bo β2) := hF.2.1
    clear hF
    obtain rfl := h17_
    refine doesG_g (b := β2) rfl (yld rfl rfl) (fun hg1 => ?_) (fun hc => ⟨fun hg1 => absurd hg1 hc, Ext.refl _⟩)
    obtain rfl := h20_ hg1
    refine (does_load (u := (Iv A_y_.b)) (ev rfl) Try.isAgg2 (Cells.at (Blk.cells (hB21.ext hu)) 2 rfl)).mono ?_; rintro _ _ ⟨rfl, rfl⟩
    exact ⟨fun _ => rfl, Ext.refl _⟩
  refine RW_d _ rfl (fun v => by dsimp only [List.set]; try rfl) (fun u hu hF => ?_) (fun v45 => ?_)
  · have h19_ : β2 = true → v42 = (Iv A_x_.b) := hF.1
    have h21_ : β2 = true → v44 = (Iv A_y_.b) := hF.2.1
    have h17_ : v40 = (Bo β2) := hF.2.2.1
    clear hF
    obtain rfl := h17_
    refine doesG_g (b := β2) rfl (yld rfl rfl) (fun hg1 => ?_) (fun hc => ⟨fun hg1 => absurd hg1 hc, Ext.refl _⟩)
    obtain rfl := h19_ hg1
    obtain rfl := h21_ hg1
    refine (does_icmp (p := A_x_.b) (q := A_y_.b) (.inl rfl) (ev rfl) (ev rfl)).mono ?_; rintro _ _ ⟨rfl, rfl⟩
    exact ⟨fun _ => rfl, Ext.refl _⟩
  refine RW_d _ rfl (fun v => by dsimp only [List.set]; try rfl) (fun u hu hF => ?_) (fun v46 => ?_)
  · have h17_ : v40 = (Bo β2) := hF.1
    have h22_ : β2 = true → v45 = (Bo (icmp .eql A_x_.b A_y_.b)) := hF.2.1
    clear hF
    refine doesG_un rfl ?_
    skip
    obtain rfl := h17_
    refine (does_pick (b := β2) (ev rfl) (ev rfl) (ev rfl)).mono ?_; rintro _ _ ⟨rfl, rfl⟩; refine ⟨?_, Ext.refl _⟩; rw [hβ3]; skip
    cases hbb : β2 <;> simp [hbb] at h22_ ⊢
    all_goals (first | rfl | (subst h22_; rfl) | simp_all)
  refine RW_d _ rfl (fun v => by dsimp only [List.set]; try rfl) (fun u hu hF => ?_) (fun v47 => ?_)
  · have h23_ : v46 = (Bo β3) := hF.1
    clear hF
    refine doesG_un rfl ?_
    obtain rfl := h23_
    refine (does_move (u := (Bo β3)) (ev rfl)).mono ?_; rintro _ _ ⟨rfl, rfl⟩
    exact ⟨rfl, Ext.refl _⟩
  refine RW_d _ rfl (fun v => by dsimp only [List.set]; try rfl) (fun u hu hF => ?_) (fun v48 => ?_)
  · have h24_ : v47 = (Bo β3) := hF.1
    clear hF
    obtain rfl := h24_
    refine doesG_g (b := β3) rfl (yld rfl rfl) (fun hg1 => ?_) (fun hc => ⟨fun hg1 => absurd hg1 hc, Ext.refl _⟩)
    refine (does_fieldAddr (ev rfl) fa37_3).mono ?_; rintro _ _ ⟨rfl, rfl⟩
    exact ⟨fun _ => rfl, Ext.refl _⟩
  refine RW_d _ rfl (fun v => by dsimp only [List.set]; try rfl) (fun u hu hF => ?_) (fun v49 => ?_)
  · have h25_ : β3 = true → v48 = (Pt b12 3) := hF.1
    have h24_ : v47 = (Bo β3) := hF.2.1
    clear hF
    obtain rfl := h24_
    refine doesG_g (b := β3) rfl (yld rfl rfl) (fun hg1 => ?_) (fun hc => ⟨fun hg1 => absurd hg1 hc, Ext.refl _⟩)
    obtain rfl := h25_ hg1
    refine (does_load (u := (.slice p5 A_x_.nums.length q6)) (ev rfl) Try.isAgg32 (Cells.at (Blk.cells ((hB14.ext E22).ext hu)) 3 rfl)).mono ?_; rintro _ _ ⟨rfl, rfl⟩
    exact ⟨fun _ => rfl, Ext.refl _⟩
  refine RW_d _ rfl (fun v => by dsimp only [List.set]; try rfl) (fun u hu hF => ?_) (fun v50 => ?_)
  · have h24_ : v47 = (Bo β3) := hF.1
    clear hF
    obtain rfl := h24_
    refine doesG_g (b := β3) rfl (yld rfl rfl) (fun hg1 => ?_) (fun hc => ⟨fun hg1 => absurd hg1 hc, Ext.refl _⟩)
    refine (does_fieldAddr (ev rfl) fa37_3).mono ?_; rintro _ _ ⟨rfl, rfl⟩
    exact ⟨fun _ => rfl, Ext.refl _⟩
  refine RW_d _ rfl (fun v => by dsimp only [List.set]; try rfl) (fun u hu hF => ?_) (fun v51 => ?_)
  · have h27_ : β3 = true → v50 = (Pt b19 3) := hF.1
    have h24_ : v47 = (Bo β3) := hF.2.1
    clear hF
    obtain rfl := h24_
    refine doesG_g (b := β3) rfl (yld rfl rfl) (fun hg1 => ?_) (fun hc => ⟨fun hg1 => absurd hg1 hc, Ext.refl _⟩)
    obtain rfl := h27_ hg1
    refine (does_load (u := (.slice p8 A_y_.nums.length q9)) (ev rfl) Try.isAgg32 (Cells.at (Blk.cells (hB21.ext hu)) 3 rfl)).mono ?_; rintro _ _ ⟨rfl, rfl⟩
    exact ⟨fun _ => rfl, Ext.refl _⟩
  refine RW_d _ rfl (fun v => by dsimp only [List.set]; try rfl) (fun u hu hF => ?_) (fun v52 => ?_)
  · have h26_ : β3 = true → v49 = (.slice p5 A_x_.nums.length q6) := hF.1
    have h28_ : β3 = true → v51 = (.slice p8 A_y_.nums.length q9) := hF.2.1
    have h24_ : v47 = (Bo β3) := hF.2.2.1
    clear hF
    obtain rfl := h24_
    refine doesG_g (b := β3) rfl (yld rfl rfl) (fun hg1 => ?_) (fun hc => ⟨fun hg1 => absurd hg1 hc, Ext.refl _⟩)
    obtain rfl := h26_ hg1
    obtain rfl := h28_ hg1
    refine (does_call (args := #[(.slice p5 A_x_.nums.length q6), (.slice p8 A_y_.nums.length q9)]) cal40 (evs rfl) (c_impl_sameList (.slice p5 A_x_.nums.length q6) A_x_.nums (.slice p8 A_y_.nums.length q9) A_y_.nums _ (Sl.ext (Sl.ext hs7 RF.mono X26) RF.mono hu) (Sl.ext (Sl.ext hs10 RF.mono X26) RF.mono hu))).mono ?_; rintro v u' ⟨hx, hv⟩
    exact ⟨fun _ => hv.trans (by simp only [hβ4]), hx⟩
  refine RW_d _ rfl (fun v => by dsimp only [List.set]; try rfl) (fun u hu hF => ?_) (fun v53 => ?_)
  · have h24_ : v47 = (Bo β3) := hF.1
    have h29_ : β3 = true → v52 = (Bo β4) := hF.2.1
    clear hF
    refine doesG_un rfl ?_
    skip
    obtain rfl := h24_
    refine (does_pick (b := β3) (ev rfl) (ev rfl) (ev rfl)).mono ?_; rintro _ _ ⟨rfl, rfl⟩; refine ⟨?_, Ext.refl _⟩; skip
    cases hbb : β3 <;> simp [hbb] at h29_ ⊢
    all_goals (first | rfl | (subst h29_; rfl) | simp_all)
  refine RW_fin ?_; intro w54 E55 hP56
  obtain ⟨⟨⟨⟨⟨⟨⟨⟨⟨⟨⟨⟨⟨⟨⟨⟨⟨⟨⟨⟨⟨⟨⟨⟨⟨⟨-, -⟩, -⟩, -⟩, -⟩, -⟩, -⟩, -⟩, -⟩, -⟩, -⟩, -⟩, -⟩, -⟩, -⟩, -⟩, -⟩, -⟩, -⟩, -⟩, -⟩, -⟩, -⟩, -⟩, -⟩, -⟩, q57⟩ := hP56
  have X58 := Ext.gr X26 E55
  have q57 : v53 = (Bo (β3 && β4)) := q57
  obtain rfl := q57
  show wpList _ _ _ _ (fr [(.agg #[(Iv A_x_.kind), (Iv A_x_.a), (Iv A_x_.b), (.slice p5 A_x_.nums.length q6)]), (.agg #[(Iv A_y_.kind), (Iv A_y_.a), (Iv A_y_.b), (.slice p8 A_y_.nums.length q9)]), (Pt b12 0), (Pt b19 0), (Bo false), v28, v29, v30, v31, v32, v33, v34, v35, v36, v37, v38, v39, v40, v41, v42, v43, v44, v45, v46, v47, v48, v49, v50, v51, v52, (Bo (β3 && β4))]) _
  refine q_is rfl rfl (does_assign (u := (Bo (β3 && β4))) (ev rfl)) (by dsimp only [List.set]; try rfl) ?_
  refine wpList_nil (hK27 _ _ ?_)
  refine wp_ret ?_
  refine ret_val (v := (Bo (β3 && β4))) (res_T rfl (slot rfl)) X58 ?_
  have x59 : (sNode sameN A_x_ A_y_) = (β3 && β4) := by first | with_reducible rfl | (simp only [sNode, hβ1, hβ2, hβ3, hβ4]; done) | (simp [sNode, hβ1, hβ2, hβ3, hβ4]; done) | rfl
  exact (by first | rfl | rw [x59])

/- impl.sameStep -/
theorem c_impl_sameStep (x_ : List Value) (A_x_ : StepT) (y_ : List Value) (A_y_ : StepT) (w : World) (hv_x_ : RStepT w A_x_ x_) (hv_y_ : RStepT w A_y_ y_) : Gives Try.prog 19 #[(.agg x_.toArray), (.agg y_.toArray)] w (fun v w' => v = (Bo (sStep sameN A_x_ A_y_))) := by
  obtain ⟨y1, rfl, h2⟩ := hv_x_
  obtain ⟨y3, rfl, h4⟩ := hv_y_
  have hs7 := h2; have hs7l := Sl.len h2; obtain ⟨p5, q6, rfl⟩ := Sl.shape h2
  have hs10 := h4; have hs10l := Sl.len h4; obtain ⟨p8, q9, rfl⟩ := Sl.shape h4
  refine enter [(.agg #[(Iv A_x_.kind), (Iv A_x_.to), (Iv A_x_.a), (Iv A_x_.b), (Iv A_x_.node.kind), (Iv A_x_.node.a), (Iv A_x_.node.b), (.slice p5 A_x_.node.nums.length q6)]), (.agg #[(Iv A_y_.kind), (Iv A_y_.to), (Iv A_y_.a), (Iv A_y_.b), (Iv A_y_.node.kind), (Iv A_y_.node.a), (Iv A_y_.node.b), (.slice p8 A_y_.node.nums.length q9)]), Ud, Ud, Ud, Ud, Ud, Ud, Ud, Ud, Ud, Ud, Ud, Ud, Ud, Ud, Ud, Ud, Ud, Ud, Ud, Ud, Ud, Ud, Ud, Ud, Ud, Ud, Ud, Ud, Ud, Ud, Ud, Ud, Ud, Ud, Ud, Ud] Try.func19 rfl Try.ntmps19 rfl ?_
  refine wp_seq_k fun K11 hK11 => ?_
  refine wp_region_lit ?_
  refine seqd rfl rfl (does_box (u := (.agg #[(Iv A_x_.kind), (Iv A_x_.to), (Iv A_x_.a), (Iv A_x_.b), (Iv A_x_.node.kind), (Iv A_x_.node.a), (Iv A_x_.node.b), (.slice p5 A_x_.node.nums.length q6)])) (ev rfl)) ?_; rintro _ w16 ⟨b12, rfl, hb13, hB14, E15⟩
  have g17 : w.heap.size ≤ b12 := Nat.le_trans (Below.size (Ext.refl w)) hb13
  change Blk _ _ [(Iv A_x_.kind), (Iv A_x_.to), (Iv A_x_.a), (Iv A_x_.b), (Iv A_x_.node.kind), (Iv A_x_.node.a), (Iv A_x_.node.b), (.slice p5 A_x_.node.nums.length q6)] at hB14
  have X18 := Ext.gr (Ext.refl w) E15
  show wpList _ _ _ _ (fr [(.agg #[(Iv A_x_.kind), (Iv A_x_.to), (Iv A_x_.a), (Iv A_x_.b), (Iv A_x_.node.kind), (Iv A_x_.node.a), (Iv A_x_.node.b), (.slice p5 A_x_.node.nums.length q6)]), (.agg #[(Iv A_y_.kind), (Iv A_y_.to), (Iv A_y_.a), (Iv A_y_.b), (Iv A_y_.node.kind), (Iv A_y_.node.a), (Iv A_y_.node.b), (.slice p8 A_y_.node.nums.length q9)]), (Pt b12 0), Ud, Ud, Ud, Ud, Ud, Ud, Ud, Ud, Ud, Ud, Ud, Ud, Ud, Ud, Ud, Ud, Ud, Ud, Ud, Ud, Ud, Ud, Ud, Ud, Ud, Ud, Ud, Ud, Ud, Ud, Ud, Ud, Ud, Ud, Ud]) _
  refine seqd rfl rfl (does_box (u := (.agg #[(Iv A_y_.kind), (Iv A_y_.to), (Iv A_y_.a), (Iv A_y_.b), (Iv A_y_.node.kind), (Iv A_y_.node.a), (Iv A_y_.node.b), (.slice p8 A_y_.node.nums.length q9)])) (ev rfl)) ?_; rintro _ w23 ⟨b19, rfl, hb20, hB21, E22⟩
  have n24 : b12 < b19 := Nat.lt_of_lt_of_le (Blk.lt hB14) hb20
  have g25 : w.heap.size ≤ b19 := Nat.le_trans (Below.size X18) hb20
  change Blk _ _ [(Iv A_y_.kind), (Iv A_y_.to), (Iv A_y_.a), (Iv A_y_.b), (Iv A_y_.node.kind), (Iv A_y_.node.a), (Iv A_y_.node.b), (.slice p8 A_y_.node.nums.length q9)] at hB21
  have X26 := Ext.gr X18 E22
  show wpList _ _ _ _ (fr [(.agg #[(Iv A_x_.kind), (Iv A_x_.to), (Iv A_x_.a), (Iv A_x_.b), (Iv A_x_.node.kind), (Iv A_x_.node.a), (Iv A_x_.node.b), (.slice p5 A_x_.node.nums.length q6)]), (.agg #[(Iv A_y_.kind), (Iv A_y_.to), (Iv A_y_.a), (Iv A_y_.b), (Iv A_y_.node.kind), (Iv A_y_.node.a), (Iv A_y_.node.b), (.slice p8 A_y_.node.nums.length q9)]), (Pt b12 0), (Pt b19 0), Ud, Ud, Ud, Ud, Ud, Ud, Ud, Ud, Ud, Ud, Ud, Ud, Ud, Ud, Ud, Ud, Ud, Ud, Ud, Ud, Ud, Ud, Ud, Ud, Ud, Ud, Ud, Ud, Ud, Ud, Ud, Ud, Ud, Ud]) _
  refine q_is rfl rfl (does_assign (u := (Bo false)) (ev rfl)) (by dsimp only [List.set]; try rfl) ?_
  refine wpList_nil (hK11 _ _ ?_)
  refine wp_seq_k fun K27 hK27 => ?_
  obtain ⟨β1, hβ1⟩ : ∃ b : Bool, b = (icmp .eql A_x_.kind A_y_.kind) := ⟨_, rfl⟩
  obtain ⟨β2, hβ2⟩ : ∃ b : Bool, b = (icmp .eql A_x_.to A_y_.to) := ⟨_, rfl⟩
  obtain ⟨β3, hβ3⟩ : ∃ b : Bool, b = ((β1 && β2) && (icmp .eql A_x_.a A_y_.a)) := ⟨_, rfl⟩
  obtain ⟨β4, hβ4⟩ : ∃ b : Bool, b = (β3 && (icmp .eql A_x_.b A_y_.b)) := ⟨_, rfl⟩
  obtain ⟨β5, hβ5⟩ : ∃ b : Bool, b = (sNode sameN A_x_.node A_y_.node) := ⟨_, rfl⟩
  refine region_text (
    [Fact.pure [] (fun v => v = (Pt b12 0)),
    Fact.pure [5] (fun v => v = (Iv A_x_.kind)),
    Fact.pure [] (fun v => v = (Pt b19 0)),
    Fact.pure [7] (fun v => v = (Iv A_y_.kind)),
    Fact.pure [6, 8] (fun v => v = (Bo β1)),
    Fact.pure [9] (fun v => v = (Bo β1)),
    Fact.pure [10] (fun v => β1 = true → v = (Pt b12 1)),
    Fact.pure [11, 10] (fun v => β1 = true → v = (Iv A_x_.to)),
    Fact.pure [10] (fun v => β1 = true → v = (Pt b19 1)),
    Fact.pure [13, 10] (fun v => β1 = true → v = (Iv A_y_.to)),
    Fact.pure [12, 14, 10] (fun v => β1 = true → v = (Bo β2)),
    Fact.pure [10, 15] (fun v => v = (Bo (β1 && β2))),
    Fact.pure [16] (fun v => v = (Bo (β1 && β2))),
    Fact.pure [17] (fun v => (β1 && β2) = true → v = (Pt b12 2)),
    Fact.pure [18, 17] (fun v => (β1 && β2) = true → v = (Iv A_x_.a)),
    Fact.pure [17] (fun v => (β1 && β2) = true → v = (Pt b19 2)),
    Fact.pure [20, 17] (fun v => (β1 && β2) = true → v = (Iv A_y_.a)),
    Fact.pure [19, 21, 17] (fun v => (β1 && β2) = true → v = (Bo (icmp .eql A_x_.a A_y_.a))),
    Fact.pure [17, 22] (fun v => v = (Bo β3)),
    Fact.pure [23] (fun v => v = (Bo β3)),
    Fact.pure [24] (fun v => β3 = true → v = (Pt b12 3)),
    Fact.pure [25, 24] (fun v => β3 = true → v = (Iv A_x_.b)),
    Fact.pure [24] (fun v => β3 = true → v = (Pt b19 3)),
    Fact.pure [27, 24] (fun v => β3 = true → v = (Iv A_y_.b)),
    Fact.pure [26, 28, 24] (fun v => β3 = true → v = (Bo (icmp .eql A_x_.b A_y_.b))),
    Fact.pure [24, 29] (fun v => v = (Bo β4)),
    Fact.pure [30] (fun v => v = (Bo β4)),
    Fact.pure [31] (fun v => β4 = true → v = (Pt b12 4)),
    Fact.pure [32, 31] (fun v => β4 = true → v = (.agg #[(Iv A_x_.node.kind), (Iv A_x_.node.a), (Iv A_x_.node.b), (.slice p5 A_x_.node.nums.length q6)])),
    Fact.pure [31] (fun v => β4 = true → v = (Pt b19 4)),
    Fact.pure [34, 31] (fun v => β4 = true → v = (.agg #[(Iv A_y_.node.kind), (Iv A_y_.node.a), (Iv A_y_.node.b), (.slice p8 A_y_.node.nums.length q9)])),
    Fact.pure [33, 35, 31] (fun v => β4 = true → v = (Bo β5)),
    Fact.pure [31, 36] (fun v => v = (Bo (β4 && β5)))]) (by simp [Fact.pure, Fact.mem]) ?_
  refine RW_d _ rfl (fun v => by dsimp only [List.set]; try rfl) (fun u hu hF => ?_) (fun v28 => ?_)
  · clear hF
    refine doesG_un rfl ?_
    refine (does_fieldAddr (ev rfl) fa43_0).mono ?_; rintro _ _ ⟨rfl, rfl⟩
    exact ⟨rfl, Ext.refl _⟩
  refine RW_d _ rfl (fun v => by dsimp only [List.set]; try rfl) (fun u hu hF => ?_) (fun v29 => ?_)
  · have h5_ : v28 = (Pt b12 0) := hF.1
    clear hF
    refine doesG_un rfl ?_
    obtain rfl := h5_
    refine (does_load (u := (Iv A_x_.kind)) (ev rfl) Try.isAgg2 (Cells.at (Blk.cells ((hB14.ext E22).ext hu)) 0 rfl)).mono ?_; rintro _ _ ⟨rfl, rfl⟩
    exact ⟨rfl, Ext.refl _⟩
  refine RW_d _ rfl (fun v => by dsimp only [List.set]; try rfl) (fun u hu hF => ?_) (fun v30 => ?_)
  · clear hF
    refine doesG_un rfl ?_
    refine (does_fieldAddr (ev rfl) fa43_0).mono ?_; rintro _ _ ⟨rfl, rfl⟩
    exact ⟨rfl, Ext.refl _⟩
  refine RW_d _ rfl (fun v => by dsimp only [List.set]; try rfl) (fun u hu hF => ?_) (fun v31 => ?_)
  · have h7_ : v30 = (Pt b19 0) := hF.1
    clear hF
    refine doesG_un rfl ?_
    obtain rfl := h7_
    refine (does_load (u := (Iv A_y_.kind)) (ev rfl) Try.isAgg2 (Cells.at (Blk.cells (hB21.ext hu)) 0 rfl)).mono ?_; rintro _ _ ⟨rfl, rfl⟩
    exact ⟨rfl, Ext.refl _⟩
  refine RW_d _ rfl (fun v => by dsimp only [List.set]; try rfl) (fun u hu hF => ?_) (fun v32 => ?_)
  · have h6_ : v29 = (Iv A_x_.kind) := hF.1
    have h8_ : v31 = (Iv A_y_.kind) := hF.2.1
    clear hF
    refine doesG_un rfl ?_
    obtain rfl := h6_
    obtain rfl := h8_
    refine (does_icmp (p := A_x_.kind) (q := A_y_.kind) (.inl rfl) (ev rfl) (ev rfl)).mono ?_; rintro _ _ ⟨rfl, rfl⟩
    exact ⟨(by first | rfl | (show _ = _; simp only [hβ1])), Ext.refl _⟩
  refine RW_d _ rfl (fun v => by dsimp only [List.set]; try rfl) (fun u hu hF => ?_) (fun v33 => ?_)
  · have h9_ : v32 = (Bo β1) := hF.1
    clear hF
    refine doesG_un rfl ?_
    obtain rfl := h9_
    refine (does_move (u := (Bo β1)) (ev rfl)).mono ?_; rintro _ _ ⟨rfl, rfl⟩
    exact ⟨rfl, Ext.refl _⟩
  refine RW_d _ rfl (fun v => by dsimp only [List.set]; try rfl) (fun u hu hF => ?_) (fun v34 => ?_)
  · have h10_ : v33 = (Bo β1) := hF.1
    clear hF
    obtain rfl := h10_
    refine doesG_g (b := β1) rfl (yld rfl rfl) (fun hg1 => ?_) (fun hc => ⟨fun hg1 => absurd hg1 hc, Ext.refl _⟩)
    refine (does_fieldAddr (ev rfl) fa43_1).mono ?_; rintro _ _ ⟨rfl, rfl⟩
    exact ⟨fun _ => rfl, Ext.refl _⟩
  refine RW_d _ rfl (fun v => by dsimp only [List.set]; try rfl) (fun u hu hF => ?_) (fun v35 => ?_)
  · have h11_ : β1 = true → v34 = (Pt b12 1) := hF.1
    have h10_ : v33 = (Bo β1) := hF.2.1
    clear hF
    obtain rfl := h10_
    refine doesG_g (b := β1) rfl (yld rfl rfl) (fun hg1 => ?_) (fun hc => ⟨fun hg1 => absurd hg1 hc, Ext.refl _⟩)
    obtain rfl := h11_ hg1
    refine (does_load (u := (Iv A_x_.to)) (ev rfl) Try.isAgg2 (Cells.at (Blk.cells ((hB14.ext E22).ext hu)) 1 rfl)).mono ?_; rintro _ _ ⟨rfl, rfl⟩
    exact ⟨fun _ => rfl, Ext.refl _⟩
  refine RW_d _ rfl (fun v => by dsimp only [List.set]; try rfl) (fun u hu hF => ?_) (fun v36 => ?_)
  · have h10_ : v33 = (Bo β1) := hF.1
    clear hF
    obtain rfl := h10_
    refine doesG_g (b := β1) rfl (yld rfl rfl) (fun hg1 => ?_) (fun hc => ⟨fun hg1 => absurd hg1 hc, Ext.refl _⟩)
    refine (does_fieldAddr (ev rfl) fa43_1).mono ?_; rintro _ _ ⟨rfl, rfl⟩
    exact ⟨fun _ => rfl, Ext.refl _⟩
  refine RW_d _ rfl (fun v => by dsimp only [List.set]; try rfl) (fun u hu hF => ?_) (fun v37 => ?_)
  · have h13_ : β1 = true → v36 = (Pt b19 1) := hF.1
    have h10_ : v33 = (Bo β1) := hF.2.1
    clear hF
    obtain rfl := h10_
    refine doesG_g (b := β1) rfl (yld rfl rfl) (fun hg1 => ?_) (fun hc => ⟨fun hg1 => absurd hg1 hc, Ext.refl _⟩)
    obtain rfl := h13_ hg1
    refine (does_load (u := (Iv A_y_.to)) (ev rfl) Try.isAgg2 (Cells.at (Blk.cells (hB21.ext hu)) 1 rfl)).mono ?_; rintro _ _ ⟨rfl, rfl⟩
    exact ⟨fun _ => rfl, Ext.refl _⟩
  refine RW_d _ rfl (fun v => by dsimp only [List.set]; try rfl) (fun u hu hF => ?_) (fun v38 => ?_)
  · have h12_ : β1 = true → v35 = (Iv A_x_.to) := hF.1
    have h14_ : β1 = true → v37 = (Iv A_y_.to) := hF.2.1
    have h10_ : v33 = (Bo β1) := hF.2.2.1
    clear hF
    obtain rfl := h10_
    refine doesG_g (b := β1) rfl (yld rfl rfl) (fun hg1 => ?_) (fun hc => ⟨fun hg1 => absurd hg1 hc, Ext.refl _⟩)
    obtain rfl := h12_ hg1
    obtain rfl := h14_ hg1
    refine (does_icmp (p := A_x_.to) (q := A_y_.to) (.inl rfl) (ev rfl) (ev rfl)).mono ?_; rintro _ _ ⟨rfl, rfl⟩
    exact ⟨fun _ => (by first | rfl | (show _ = _; simp only [hβ2])), Ext.refl _⟩
  refine RW_d _ rfl (fun v => by dsimp only [List.set]; try rfl) (fun u hu hF => ?_) (fun v39 => ?_)
  · have h10_ : v33 = (Bo β1) := hF.1
    have h15_ : β1 = true → v38 = (Bo β2) := hF.2.1
    clear hF
    refine doesG_un rfl ?_
    skip
    obtain rfl := h10_
    refine (does_pick (b := β1) (ev rfl) (ev rfl) (ev rfl)).mono ?_; rintro _ _ ⟨rfl, rfl⟩; refine ⟨?_, Ext.refl _⟩; skip
    cases hbb : β1 <;> simp [hbb] at h15_ ⊢
    all_goals (first | rfl | (subst h15_; rfl) | simp_all)
  refine RW_d _ rfl (fun v => by dsimp only [List.set]; try rfl) (fun u hu hF => ?_) (fun v40 => ?_)
  · have h16_ : v39 = (Bo (β1 && β2)) := hF.1
    clear hF
    refine doesG_un rfl ?_
    obtain rfl := h16_
    refine (does_move (u := (Bo (β1 && β2))) (ev rfl)).mono ?_; rintro _ _ ⟨rfl, rfl⟩
    exact ⟨rfl, Ext.refl _⟩
  refine RW_d _ rfl (fun v => by dsimp only [List.set]; try rfl) (fun u hu hF => ?_) (fun v41 => ?_)
  · have h17_ : v40 = (Bo (β1 && β2)) := hF.1
    clear hF
    obtain rfl := h17_
    refine doesG_g (b := (β1 && β2)) rfl (yld rfl rfl) (fun hg1 => ?_) (fun hc => ⟨fun hg1 => absurd hg1 hc, Ext.refl _⟩)
    refine (does_fieldAddr (ev rfl) fa43_2).mono ?_; rintro _ _ ⟨rfl, rfl⟩
    exact ⟨fun _ => rfl, Ext.refl _⟩
  refine RW_d _ rfl (fun v => by dsimp only [List.set]; try rfl) (fun u hu hF => ?_) (fun v42 => ?_)
  · have h18_ : (β1 && β2) = true → v41 = (Pt b12 2) := hF.1
    have h17_ : v40 = (Bo (β1 && β2)) := hF.2.1
    clear hF
    obtain rfl := h17_
    refine doesG_g (b := (β1 && β2)) rfl (yld rfl rfl) (fun hg1 => ?_) (fun hc => ⟨fun hg1 => absurd hg1 hc, Ext.refl _⟩)
    obtain rfl := h18_ hg1
    refine (does_load (u := (Iv A_x_.a)) (ev rfl) Try.isAgg2 (Cells.at (Blk.cells ((hB14.ext E22).ext hu)) 2 rfl)).mono ?_; rintro _ _ ⟨rfl, rfl⟩
    exact ⟨fun _ => rfl, Ext.refl _⟩
  refine RW_d _ rfl (fun v => by dsimp only [List.set]; try rfl) (fun u hu hF => ?_) (fun v43 => ?_)
  · have h17_ : v40 = (Bo (β1 && β2)) := hF.1
    clear hF
    obtain rfl := h17_
    refine doesG_g (b := (β1 && β2)) rfl (yld rfl rfl) (fun hg1 => ?_) (fun hc => ⟨fun hg1 => absurd hg1 hc, Ext.refl _⟩)
    refine (does_fieldAddr (ev rfl) fa43_2).mono ?_; rintro _ _ ⟨rfl, rfl⟩
    exact ⟨fun _ => rfl, Ext.refl _⟩
  refine RW_d _ rfl (fun v => by dsimp only [List.set]; try rfl) (fun u hu hF => ?_) (fun v44 => ?_)
  · have h20_ : (β1 && β2) = true → v43 = (Pt b19 2) := hF.1
    have h17_ : v40 = (Bo (β1 && β2)) := hF.2.1
    clear hF
    obtain rfl := h17_
    refine doesG_g (b := (β1 && β2)) rfl (yld rfl rfl) (fun hg1 => ?_) (fun hc => ⟨fun hg1 => absurd hg1 hc, Ext.refl _⟩)
    obtain rfl := h20_ hg1
    refine (does_load (u := (Iv A_y_.a)) (ev rfl) Try.isAgg2 (Cells.at (Blk.cells (hB21.ext hu)) 2 rfl)).mono ?_; rintro _ _ ⟨rfl, rfl⟩
    exact ⟨fun _ => rfl, Ext.refl _⟩
  refine RW_d _ rfl (fun v => by dsimp only [List.set]; try rfl) (fun u hu hF => ?_) (fun v45 => ?_)
  · have h19_ : (β1 && β2) = true → v42 = (Iv A_x_.a) := hF.1
    have h21_ : (β1 && β2) = true → v44 = (Iv A_y_.a) := hF.2.1
    have h17_ : v40 = (Bo (β1 && β2)) := hF.2.2.1
    clear hF
    obtain rfl := h17_
    refine doesG_g (b := (β1 && β2)) rfl (yld rfl rfl) (fun hg1 => ?_) (fun hc => ⟨fun hg1 => absurd hg1 hc, Ext.refl _⟩)
    obtain rfl := h19_ hg1
    obtain rfl := h21_ hg1
    refine (does_icmp (p := A_x_.a) (q := A_y_.a) (.inl rfl) (ev rfl) (ev rfl)).mono ?_; rintro _ _ ⟨rfl, rfl⟩
    exact ⟨fun _ => rfl, Ext.refl _⟩
  refine RW_d _ rfl (fun v => by dsimp only [List.set]; try rfl) (fun u hu hF => ?_) (fun v46 => ?_)
  · have h17_ : v40 = (Bo (β1 && β2)) := hF.1
    have h22_ : (β1 && β2) = true → v45 = (Bo (icmp .eql A_x_.a A_y_.a)) := hF.2.1
    clear hF
    refine doesG_un rfl ?_
    skip
    obtain rfl := h17_
    refine (does_pick (b := (β1 && β2)) (ev rfl) (ev rfl) (ev rfl)).mono ?_; rintro _ _ ⟨rfl, rfl⟩; refine ⟨?_, Ext.refl _⟩; rw [hβ3]; skip
    cases hbb : (β1 && β2) <;> simp [hbb] at h22_ ⊢
    all_goals (first | rfl | (subst h22_; rfl) | simp_all)
  refine RW_d _ rfl (fun v => by dsimp only [List.set]; try rfl) (fun u hu hF => ?_) (fun v47 => ?_)
  · have h23_ : v46 = (Bo β3) := hF.1
    clear hF
    refine doesG_un rfl ?_
    obtain rfl := h23_
    refine (does_move (u := (Bo β3)) (ev rfl)).mono ?_; rintro _ _ ⟨rfl, rfl⟩
    exact ⟨rfl, Ext.refl _⟩
  refine RW_d _ rfl (fun v => by dsimp only [List.set]; try rfl) (fun u hu hF => ?_) (fun v48 => ?_)
  · have h24_ : v47 = (Bo β3) := hF.1
    clear hF
    obtain rfl := h24_
    refine doesG_g (b := β3) rfl (yld rfl rfl) (fun hg1 => ?_) (fun hc => ⟨fun hg1 => absurd hg1 hc, Ext.refl _⟩)
    refine (does_fieldAddr (ev rfl) fa43_3).mono ?_; rintro _ _ ⟨rfl, rfl⟩
    exact ⟨fun _ => rfl, Ext.refl _⟩
  refine RW_d _ rfl (fun v => by dsimp only [List.set]; try rfl) (fun u hu hF => ?_) (fun v49 => ?_)
  · have h25_ : β3 = true → v48 = (Pt b12 3) := hF.1
    have h24_ : v47 = (Bo β3) := hF.2.1
    clear hF
    obtain rfl := h24_
    refine doesG_g (b := β3) rfl (yld rfl rfl) (fun hg1 => ?_) (fun hc => ⟨fun hg1 => absurd hg1 hc, Ext.refl _⟩)
    obtain rfl := h25_ hg1
    refine (does_load (u := (Iv A_x_.b)) (ev rfl) Try.isAgg2 (Cells.at (Blk.cells ((hB14.ext E22).ext hu)) 3 rfl)).mono ?_; rintro _ _ ⟨rfl, rfl⟩
    exact ⟨fun _ => rfl, Ext.refl _⟩
  refine RW_d _ rfl (fun v => by dsimp only [List.set]; try rfl) (fun u hu hF => ?_) (fun v50 => ?_)
  · have h24_ : v47 = (Bo β3) := hF.1
    clear hF
    obtain rfl := h24_
    refine doesG_g (b := β3) rfl (yld rfl rfl) (fun hg1 => ?_) (fun hc => ⟨fun hg1 => absurd hg1 hc, Ext.refl _⟩)
    refine (does_fieldAddr (ev rfl) fa43_3).mono ?_; rintro _ _ ⟨rfl, rfl⟩
    exact ⟨fun _ => rfl, Ext.refl _⟩
  refine RW_d _ rfl (fun v => by dsimp only [List.set]; try rfl) (fun u hu hF => ?_) (fun v51 => ?_)
  · have h27_ : β3 = true → v50 = (Pt b19 3) := hF.1
    have h24_ : v47 = (Bo β3) := hF.2.1
    clear hF
    obtain rfl := h24_
    refine doesG_g (b := β3) rfl (yld rfl rfl) (fun hg1 => ?_) (fun hc => ⟨fun hg1 => absurd hg1 hc, Ext.refl _⟩)
    obtain rfl := h27_ hg1
    refine (does_load (u := (Iv A_y_.b)) (ev rfl) Try.isAgg2 (Cells.at (Blk.cells (hB21.ext hu)) 3 rfl)).mono ?_; rintro _ _ ⟨rfl, rfl⟩
    exact ⟨fun _ => rfl, Ext.refl _⟩
  refine RW_d _ rfl (fun v => by dsimp only [List.set]; try rfl) (fun u hu hF => ?_) (fun v52 => ?_)
  · have h26_ : β3 = true → v49 = (Iv A_x_.b) := hF.1
    have h28_ : β3 = true → v51 = (Iv A_y_.b) := hF.2.1
    have h24_ : v47 = (Bo β3) := hF.2.2.1
    clear hF
    obtain rfl := h24_
    refine doesG_g (b := β3) rfl (yld rfl rfl) (fun hg1 => ?_) (fun hc => ⟨fun hg1 => absurd hg1 hc, Ext.refl _⟩)
    obtain rfl := h26_ hg1
    obtain rfl := h28_ hg1
    refine (does_icmp (p := A_x_.b) (q := A_y_.b) (.inl rfl) (ev rfl) (ev rfl)).mono ?_; rintro _ _ ⟨rfl, rfl⟩
    exact ⟨fun _ => rfl, Ext.refl _⟩
  refine RW_d _ rfl (fun v => by dsimp only [List.set]; try rfl) (fun u hu hF => ?_) (fun v53 => ?_)
  · have h24_ : v47 = (Bo β3) := hF.1
    have h29_ : β3 = true → v52 = (Bo (icmp .eql A_x_.b A_y_.b)) := hF.2.1
    clear hF
    refine doesG_un rfl ?_
    skip
    obtain rfl := h24_
    refine (does_pick (b := β3) (ev rfl) (ev rfl) (ev rfl)).mono ?_; rintro _ _ ⟨rfl, rfl⟩; refine ⟨?_, Ext.refl _⟩; rw [hβ4]; skip
    cases hbb : β3 <;> simp [hbb] at h29_ ⊢
    all_goals (first | rfl | (subst h29_; rfl) | simp_all)
  refine RW_d _ rfl (fun v => by dsimp only [List.set]; try rfl) (fun u hu hF => ?_) (fun v54 => ?_)
  · have h30_ : v53 = (Bo β4) := hF.1
    clear hF
    refine doesG_un rfl ?_
    obtain rfl := h30_
    refine (does_move (u := (Bo β4)) (ev rfl)).mono ?_; rintro _ _ ⟨rfl, rfl⟩
    exact ⟨rfl, Ext.refl _⟩
  refine RW_d _ rfl (fun v => by dsimp only [List.set]; try rfl) (fun u hu hF => ?_) (fun v55 => ?_)
  · have h31_ : v54 = (Bo β4) := hF.1
    clear hF
    obtain rfl := h31_
    refine doesG_g (b := β4) rfl (yld rfl rfl) (fun hg1 => ?_) (fun hc => ⟨fun hg1 => absurd hg1 hc, Ext.refl _⟩)
    refine (does_fieldAddr (ev rfl) fa43_4).mono ?_; rintro _ _ ⟨rfl, rfl⟩
    exact ⟨fun _ => rfl, Ext.refl _⟩
  refine RW_d _ rfl (fun v => by dsimp only [List.set]; try rfl) (fun u hu hF => ?_) (fun v56 => ?_)
  · have h32_ : β4 = true → v55 = (Pt b12 4) := hF.1
    have h31_ : v54 = (Bo β4) := hF.2.1
    clear hF
    obtain rfl := h31_
    refine doesG_g (b := β4) rfl (yld rfl rfl) (fun hg1 => ?_) (fun hc => ⟨fun hg1 => absurd hg1 hc, Ext.refl _⟩)
    obtain rfl := h32_ hg1
    refine (does_loadAgg (cs := [(Iv A_x_.node.kind), (Iv A_x_.node.a), (Iv A_x_.node.b), (.slice p5 A_x_.node.nums.length q6)]) (ev rfl) Try.isAgg37 Try.sizeOf37 (Cells.sub (Blk.cells ((hB14.ext E22).ext hu)) 4 4) rfl).mono ?_; rintro _ _ ⟨rfl, rfl⟩
    exact ⟨fun _ => rfl, Ext.refl _⟩
  refine RW_d _ rfl (fun v => by dsimp only [List.set]; try rfl) (fun u hu hF => ?_) (fun v57 => ?_)
  · have h31_ : v54 = (Bo β4) := hF.1
    clear hF
    obtain rfl := h31_
    refine doesG_g (b := β4) rfl (yld rfl rfl) (fun hg1 => ?_) (fun hc => ⟨fun hg1 => absurd hg1 hc, Ext.refl _⟩)
    refine (does_fieldAddr (ev rfl) fa43_4).mono ?_; rintro _ _ ⟨rfl, rfl⟩
    exact ⟨fun _ => rfl, Ext.refl _⟩
  refine RW_d _ rfl (fun v => by dsimp only [List.set]; try rfl) (fun u hu hF => ?_) (fun v58 => ?_)
  · have h34_ : β4 = true → v57 = (Pt b19 4) := hF.1
    have h31_ : v54 = (Bo β4) := hF.2.1
    clear hF
    obtain rfl := h31_
    refine doesG_g (b := β4) rfl (yld rfl rfl) (fun hg1 => ?_) (fun hc => ⟨fun hg1 => absurd hg1 hc, Ext.refl _⟩)
    obtain rfl := h34_ hg1
    refine (does_loadAgg (cs := [(Iv A_y_.node.kind), (Iv A_y_.node.a), (Iv A_y_.node.b), (.slice p8 A_y_.node.nums.length q9)]) (ev rfl) Try.isAgg37 Try.sizeOf37 (Cells.sub (Blk.cells (hB21.ext hu)) 4 4) rfl).mono ?_; rintro _ _ ⟨rfl, rfl⟩
    exact ⟨fun _ => rfl, Ext.refl _⟩
  refine RW_d _ rfl (fun v => by dsimp only [List.set]; try rfl) (fun u hu hF => ?_) (fun v59 => ?_)
  · have h33_ : β4 = true → v56 = (.agg #[(Iv A_x_.node.kind), (Iv A_x_.node.a), (Iv A_x_.node.b), (.slice p5 A_x_.node.nums.length q6)]) := hF.1
    have h35_ : β4 = true → v58 = (.agg #[(Iv A_y_.node.kind), (Iv A_y_.node.a), (Iv A_y_.node.b), (.slice p8 A_y_.node.nums.length q9)]) := hF.2.1
    have h31_ : v54 = (Bo β4) := hF.2.2.1
    clear hF
    obtain rfl := h31_
    refine doesG_g (b := β4) rfl (yld rfl rfl) (fun hg1 => ?_) (fun hc => ⟨fun hg1 => absurd hg1 hc, Ext.refl _⟩)
    obtain rfl := h33_ hg1
    obtain rfl := h35_ hg1
    refine (does_call (args := #[(.agg #[(Iv A_x_.node.kind), (Iv A_x_.node.a), (Iv A_x_.node.b), (.slice p5 A_x_.node.nums.length q6)]), (.agg #[(Iv A_y_.node.kind), (Iv A_y_.node.a), (Iv A_y_.node.b), (.slice p8 A_y_.node.nums.length q9)])]) cal31 (evs rfl) (c_impl_sameNode [(Iv A_x_.node.kind), (Iv A_x_.node.a), (Iv A_x_.node.b), (.slice p5 A_x_.node.nums.length q6)] A_x_.node [(Iv A_y_.node.kind), (Iv A_y_.node.a), (Iv A_y_.node.b), (.slice p8 A_y_.node.nums.length q9)] A_y_.node _ ⟨(.slice p5 A_x_.node.nums.length q6), rfl, (Sl.ext (Sl.ext hs7 RF.mono X26) RF.mono hu)⟩ ⟨(.slice p8 A_y_.node.nums.length q9), rfl, (Sl.ext (Sl.ext hs10 RF.mono X26) RF.mono hu)⟩)).mono ?_; rintro v u' ⟨hx, hv⟩
    exact ⟨fun _ => hv.trans (by simp only [hβ5]), hx⟩
  refine RW_d _ rfl (fun v => by dsimp only [List.set]; try rfl) (fun u hu hF => ?_) (fun v60 => ?_)
  · have h31_ : v54 = (Bo β4) := hF.1
    have h36_ : β4 = true → v59 = (Bo β5) := hF.2.1
    clear hF
    refine doesG_un rfl ?_
    skip
    obtain rfl := h31_
    refine (does_pick (b := β4) (ev rfl) (ev rfl) (ev rfl)).mono ?_; rintro _ _ ⟨rfl, rfl⟩; refine ⟨?_, Ext.refl _⟩; skip
    cases hbb : β4 <;> simp [hbb] at h36_ ⊢
    all_goals (first | rfl | (subst h36_; rfl) | simp_all)
  refine RW_fin ?_; intro w61 E62 hP63
  obtain ⟨⟨⟨⟨⟨⟨⟨⟨⟨⟨⟨⟨⟨⟨⟨⟨⟨⟨⟨⟨⟨⟨⟨⟨⟨⟨⟨⟨⟨⟨⟨⟨⟨-, -⟩, -⟩, -⟩, -⟩, -⟩, -⟩, -⟩, -⟩, -⟩, -⟩, -⟩, -⟩, -⟩, -⟩, -⟩, -⟩, -⟩, -⟩, -⟩, -⟩, -⟩, -⟩, -⟩, -⟩, -⟩, -⟩, -⟩, -⟩, -⟩, -⟩, -⟩, -⟩, q64⟩ := hP63
  have X65 := Ext.gr X26 E62
  have q64 : v60 = (Bo (β4 && β5)) := q64
  obtain rfl := q64
  show wpList _ _ _ _ (fr [(.agg #[(Iv A_x_.kind), (Iv A_x_.to), (Iv A_x_.a), (Iv A_x_.b), (Iv A_x_.node.kind), (Iv A_x_.node.a), (Iv A_x_.node.b), (.slice p5 A_x_.node.nums.length q6)]), (.agg #[(Iv A_y_.kind), (Iv A_y_.to), (Iv A_y_.a), (Iv A_y_.b), (Iv A_y_.node.kind), (Iv A_y_.node.a), (Iv A_y_.node.b), (.slice p8 A_y_.node.nums.length q9)]), (Pt b12 0), (Pt b19 0), (Bo false), v28, v29, v30, v31, v32, v33, v34, v35, v36, v37, v38, v39, v40, v41, v42, v43, v44, v45, v46, v47, v48, v49, v50, v51, v52, v53, v54, v55, v56, v57, v58, v59, (Bo (β4 && β5))]) _
  refine q_is rfl rfl (does_assign (u := (Bo (β4 && β5))) (ev rfl)) (by dsimp only [List.set]; try rfl) ?_
  refine wpList_nil (hK27 _ _ ?_)
  refine wp_ret ?_
  refine ret_val (v := (Bo (β4 && β5))) (res_T rfl (slot rfl)) X65 ?_
  have x66 : (sStep sameN A_x_ A_y_) = (β4 && β5) := by first | with_reducible rfl | (simp only [sStep, hβ1, hβ2, hβ3, hβ4, hβ5]; done) | (simp [sStep, hβ1, hβ2, hβ3, hβ4, hβ5]; done) | rfl
  exact (by first | rfl | rw [x66])

/- impl.SameProgram -/
theorem c_impl_SameProgram (x_ : List Value) (A_x_ : ProgT) (y_ : List Value) (A_y_ : ProgT) (w : World) (hv_x_ : RProgT w A_x_ x_) (hv_y_ : RProgT w A_y_ y_) : Gives Try.prog 8 #[(.agg x_.toArray), (.agg y_.toArray)] w (fun v w' => v = (Bo (sProg sameN A_x_ A_y_))) := by
  obtain ⟨y1, rfl, h2⟩ := hv_x_
  obtain ⟨y3, rfl, h4⟩ := hv_y_
  have hs7 := h2; have hs7l := Sl.len h2; obtain ⟨p5, q6, rfl⟩ := Sl.shape h2
  have hs10 := h4; have hs10l := Sl.len h4; obtain ⟨p8, q9, rfl⟩ := Sl.shape h4
  refine enter [(.agg #[(Iv A_x_.points), (Iv A_x_.values), (.slice p5 A_x_.steps.length q6)]), (.agg #[(Iv A_y_.points), (Iv A_y_.values), (.slice p8 A_y_.steps.length q9)]), Ud, Ud, Ud, Ud, Ud, Ud, Ud, Ud, Ud, Ud, Ud, Ud, Ud, Ud, Ud, Ud, Ud, Ud, Ud, Ud, Ud, Ud] Try.func8 rfl Try.ntmps8 rfl ?_
  refine wp_seq_k fun K11 hK11 => ?_
  refine wp_region_lit ?_
  refine seqd rfl rfl (does_box (u := (.agg #[(Iv A_x_.points), (Iv A_x_.values), (.slice p5 A_x_.steps.length q6)])) (ev rfl)) ?_; rintro _ w16 ⟨b12, rfl, hb13, hB14, E15⟩
  have g17 : w.heap.size ≤ b12 := Nat.le_trans (Below.size (Ext.refl w)) hb13
  change Blk _ _ [(Iv A_x_.points), (Iv A_x_.values), (.slice p5 A_x_.steps.length q6)] at hB14
  have X18 := Ext.gr (Ext.refl w) E15
  show wpList _ _ _ _ (fr [(.agg #[(Iv A_x_.points), (Iv A_x_.values), (.slice p5 A_x_.steps.length q6)]), (.agg #[(Iv A_y_.points), (Iv A_y_.values), (.slice p8 A_y_.steps.length q9)]), (Pt b12 0), Ud, Ud, Ud, Ud, Ud, Ud, Ud, Ud, Ud, Ud, Ud, Ud, Ud, Ud, Ud, Ud, Ud, Ud, Ud, Ud, Ud]) _
  refine seqd rfl rfl (does_box (u := (.agg #[(Iv A_y_.points), (Iv A_y_.values), (.slice p8 A_y_.steps.length q9)])) (ev rfl)) ?_; rintro _ w23 ⟨b19, rfl, hb20, hB21, E22⟩
  have n24 : b12 < b19 := Nat.lt_of_lt_of_le (Blk.lt hB14) hb20
  have g25 : w.heap.size ≤ b19 := Nat.le_trans (Below.size X18) hb20
  change Blk _ _ [(Iv A_y_.points), (Iv A_y_.values), (.slice p8 A_y_.steps.length q9)] at hB21
  have X26 := Ext.gr X18 E22
  show wpList _ _ _ _ (fr [(.agg #[(Iv A_x_.points), (Iv A_x_.values), (.slice p5 A_x_.steps.length q6)]), (.agg #[(Iv A_y_.points), (Iv A_y_.values), (.slice p8 A_y_.steps.length q9)]), (Pt b12 0), (Pt b19 0), Ud, Ud, Ud, Ud, Ud, Ud, Ud, Ud, Ud, Ud, Ud, Ud, Ud, Ud, Ud, Ud, Ud, Ud, Ud, Ud]) _
  refine q_is rfl rfl (does_assign (u := (Bo false)) (ev rfl)) (by dsimp only [List.set]; try rfl) ?_
  refine wpList_nil (hK11 _ _ ?_)
  refine wp_seq_k fun K27 hK27 => ?_
  obtain ⟨β1, hβ1⟩ : ∃ b : Bool, b = (icmp .eql A_x_.points A_y_.points) := ⟨_, rfl⟩
  obtain ⟨β2, hβ2⟩ : ∃ b : Bool, b = (icmp .eql A_x_.values A_y_.values) := ⟨_, rfl⟩
  obtain ⟨β3, hβ3⟩ : ∃ b : Bool, b = (sameX (fun x y => sStep sameN x y) A_x_.steps A_y_.steps) := ⟨_, rfl⟩
  refine region_text (
    [Fact.pure [] (fun v => v = (Pt b12 0)),
    Fact.pure [5] (fun v => v = (Iv A_x_.points)),
    Fact.pure [] (fun v => v = (Pt b19 0)),
    Fact.pure [7] (fun v => v = (Iv A_y_.points)),
    Fact.pure [6, 8] (fun v => v = (Bo β1)),
    Fact.pure [9] (fun v => v = (Bo β1)),
    Fact.pure [10] (fun v => β1 = true → v = (Pt b12 1)),
    Fact.pure [11, 10] (fun v => β1 = true → v = (Iv A_x_.values)),
    Fact.pure [10] (fun v => β1 = true → v = (Pt b19 1)),
    Fact.pure [13, 10] (fun v => β1 = true → v = (Iv A_y_.values)),
    Fact.pure [12, 14, 10] (fun v => β1 = true → v = (Bo β2)),
    Fact.pure [10, 15] (fun v => v = (Bo (β1 && β2))),
    Fact.pure [16] (fun v => v = (Bo (β1 && β2))),
    Fact.pure [17] (fun v => (β1 && β2) = true → v = (Pt b12 2)),
    Fact.pure [18, 17] (fun v => (β1 && β2) = true → v = (.slice p5 A_x_.steps.length q6)),
    Fact.pure [17] (fun v => (β1 && β2) = true → v = (Pt b19 2)),
    Fact.pure [20, 17] (fun v => (β1 && β2) = true → v = (.slice p8 A_y_.steps.length q9)),
    Fact.pure [19, 21, 17] (fun v => (β1 && β2) = true → v = (Bo β3)),
    Fact.pure [17, 22] (fun v => v = (Bo ((β1 && β2) && β3)))]) (by simp [Fact.pure, Fact.mem]) ?_
  refine RW_d _ rfl (fun v => by dsimp only [List.set]; try rfl) (fun u hu hF => ?_) (fun v28 => ?_)
  · clear hF
    refine doesG_un rfl ?_
    refine (does_fieldAddr (ev rfl) fa29_0).mono ?_; rintro _ _ ⟨rfl, rfl⟩
    exact ⟨rfl, Ext.refl _⟩
  refine RW_d _ rfl (fun v => by dsimp only [List.set]; try rfl) (fun u hu hF => ?_) (fun v29 => ?_)
  · have h5_ : v28 = (Pt b12 0) := hF.1
    clear hF
    refine doesG_un rfl ?_
    obtain rfl := h5_
    refine (does_load (u := (Iv A_x_.points)) (ev rfl) Try.isAgg2 (Cells.at (Blk.cells ((hB14.ext E22).ext hu)) 0 rfl)).mono ?_; rintro _ _ ⟨rfl, rfl⟩
    exact ⟨rfl, Ext.refl _⟩
  refine RW_d _ rfl (fun v => by dsimp only [List.set]; try rfl) (fun u hu hF => ?_) (fun v30 => ?_)
  · clear hF
    refine doesG_un rfl ?_
    refine (does_fieldAddr (ev rfl) fa29_0).mono ?_; rintro _ _ ⟨rfl, rfl⟩
    exact ⟨rfl, Ext.refl _⟩
  refine RW_d _ rfl (fun v => by dsimp only [List.set]; try rfl) (fun u hu hF => ?_) (fun v31 => ?_)
  · have h7_ : v30 = (Pt b19 0) := hF.1
    clear hF
    refine doesG_un rfl ?_
    obtain rfl := h7_
    refine (does_load (u := (Iv A_y_.points)) (ev rfl) Try.isAgg2 (Cells.at (Blk.cells (hB21.ext hu)) 0 rfl)).mono ?_; rintro _ _ ⟨rfl, rfl⟩
    exact ⟨rfl, Ext.refl _⟩
  refine RW_d _ rfl (fun v => by dsimp only [List.set]; try rfl) (fun u hu hF => ?_) (fun v32 => ?_)
  · have h6_ : v29 = (Iv A_x_.points) := hF.1
    have h8_ : v31 = (Iv A_y_.points) := hF.2.1
    clear hF
    refine doesG_un rfl ?_
    obtain rfl := h6_
    obtain rfl := h8_
    refine (does_icmp (p := A_x_.points) (q := A_y_.points) (.inl rfl) (ev rfl) (ev rfl)).mono ?_; rintro _ _ ⟨rfl, rfl⟩
    exact ⟨(by first | rfl | (show _ = _; simp only [hβ1])), Ext.refl _⟩
  refine RW_d _ rfl (fun v => by dsimp only [List.set]; try rfl) (fun u hu hF => ?_) (fun v33 => ?_)
  · have h9_ : v32 = (Bo β1) := hF.1
    clear hF
    refine doesG_un rfl ?_
    obtain rfl := h9_
    refine (does_move (u := (Bo β1)) (ev rfl)).mono ?_; rintro _ _ ⟨rfl, rfl⟩
    exact ⟨rfl, Ext.refl _⟩
  refine RW_d _ rfl (fun v => by dsimp only [List.set]; try rfl) (fun u hu hF => ?_) (fun v34 => ?_)
  · have h10_ : v33 = (Bo β1) := hF.1
    clear hF
    obtain rfl := h10_
    refine doesG_g (b := β1) rfl (yld rfl rfl) (fun hg1 => ?_) (fun hc => ⟨fun hg1 => absurd hg1 hc, Ext.refl _⟩)
    refine (does_fieldAddr (ev rfl) fa29_1).mono ?_; rintro _ _ ⟨rfl, rfl⟩
    exact ⟨fun _ => rfl, Ext.refl _⟩
  refine RW_d _ rfl (fun v => by dsimp only [List.set]; try rfl) (fun u hu hF => ?_) (fun v35 => ?_)
  · have h11_ : β1 = true → v34 = (Pt b12 1) := hF.1
    have h10_ : v33 = (Bo β1) := hF.2.1
    clear hF
    obtain rfl := h10_
    refine doesG_g (b := β1) rfl (yld rfl rfl) (fun hg1 => ?_) (fun hc => ⟨fun hg1 => absurd hg1 hc, Ext.refl _⟩)
    obtain rfl := h11_ hg1
    refine (does_load (u := (Iv A_x_.values)) (ev rfl) Try.isAgg2 (Cells.at (Blk.cells ((hB14.ext E22).ext hu)) 1 rfl)).mono ?_; rintro _ _ ⟨rfl, rfl⟩
    exact ⟨fun _ => rfl, Ext.refl _⟩
  refine RW_d _ rfl (fun v => by dsimp only [List.set]; try rfl) (fun u hu hF => ?_) (fun v36 => ?_)
  · have h10_ : v33 = (Bo β1) := hF.1
    clear hF
    obtain rfl := h10_
    refine doesG_g (b := β1) rfl (yld rfl rfl) (fun hg1 => ?_) (fun hc => ⟨fun hg1 => absurd hg1 hc, Ext.refl _⟩)
    refine (does_fieldAddr (ev rfl) fa29_1).mono ?_; rintro _ _ ⟨rfl, rfl⟩
    exact ⟨fun _ => rfl, Ext.refl _⟩
  refine RW_d _ rfl (fun v => by dsimp only [List.set]; try rfl) (fun u hu hF => ?_) (fun v37 => ?_)
  · have h13_ : β1 = true → v36 = (Pt b19 1) := hF.1
    have h10_ : v33 = (Bo β1) := hF.2.1
    clear hF
    obtain rfl := h10_
    refine doesG_g (b := β1) rfl (yld rfl rfl) (fun hg1 => ?_) (fun hc => ⟨fun hg1 => absurd hg1 hc, Ext.refl _⟩)
    obtain rfl := h13_ hg1
    refine (does_load (u := (Iv A_y_.values)) (ev rfl) Try.isAgg2 (Cells.at (Blk.cells (hB21.ext hu)) 1 rfl)).mono ?_; rintro _ _ ⟨rfl, rfl⟩
    exact ⟨fun _ => rfl, Ext.refl _⟩
  refine RW_d _ rfl (fun v => by dsimp only [List.set]; try rfl) (fun u hu hF => ?_) (fun v38 => ?_)
  · have h12_ : β1 = true → v35 = (Iv A_x_.values) := hF.1
    have h14_ : β1 = true → v37 = (Iv A_y_.values) := hF.2.1
    have h10_ : v33 = (Bo β1) := hF.2.2.1
    clear hF
    obtain rfl := h10_
    refine doesG_g (b := β1) rfl (yld rfl rfl) (fun hg1 => ?_) (fun hc => ⟨fun hg1 => absurd hg1 hc, Ext.refl _⟩)
    obtain rfl := h12_ hg1
    obtain rfl := h14_ hg1
    refine (does_icmp (p := A_x_.values) (q := A_y_.values) (.inl rfl) (ev rfl) (ev rfl)).mono ?_; rintro _ _ ⟨rfl, rfl⟩
    exact ⟨fun _ => (by first | rfl | (show _ = _; simp only [hβ2])), Ext.refl _⟩
  refine RW_d _ rfl (fun v => by dsimp only [List.set]; try rfl) (fun u hu hF => ?_) (fun v39 => ?_)
  · have h10_ : v33 = (Bo β1) := hF.1
    have h15_ : β1 = true → v38 = (Bo β2) := hF.2.1
    clear hF
    refine doesG_un rfl ?_
    skip
    obtain rfl := h10_
    refine (does_pick (b := β1) (ev rfl) (ev rfl) (ev rfl)).mono ?_; rintro _ _ ⟨rfl, rfl⟩; refine ⟨?_, Ext.refl _⟩; skip
    cases hbb : β1 <;> simp [hbb] at h15_ ⊢
    all_goals (first | rfl | (subst h15_; rfl) | simp_all)
  refine RW_d _ rfl (fun v => by dsimp only [List.set]; try rfl) (fun u hu hF => ?_) (fun v40 => ?_)
  · have h16_ : v39 = (Bo (β1 && β2)) := hF.1
    clear hF
    refine doesG_un rfl ?_
    obtain rfl := h16_
    refine (does_move (u := (Bo (β1 && β2))) (ev rfl)).mono ?_; rintro _ _ ⟨rfl, rfl⟩
    exact ⟨rfl, Ext.refl _⟩
  refine RW_d _ rfl (fun v => by dsimp only [List.set]; try rfl) (fun u hu hF => ?_) (fun v41 => ?_)
  · have h17_ : v40 = (Bo (β1 && β2)) := hF.1
    clear hF
    obtain rfl := h17_
    refine doesG_g (b := (β1 && β2)) rfl (yld rfl rfl) (fun hg1 => ?_) (fun hc => ⟨fun hg1 => absurd hg1 hc, Ext.refl _⟩)
    refine (does_fieldAddr (ev rfl) fa29_2).mono ?_; rintro _ _ ⟨rfl, rfl⟩
    exact ⟨fun _ => rfl, Ext.refl _⟩
  refine RW_d _ rfl (fun v => by dsimp only [List.set]; try rfl) (fun u hu hF => ?_) (fun v42 => ?_)
  · have h18_ : (β1 && β2) = true → v41 = (Pt b12 2) := hF.1
    have h17_ : v40 = (Bo (β1 && β2)) := hF.2.1
    clear hF
    obtain rfl := h17_
    refine doesG_g (b := (β1 && β2)) rfl (yld rfl rfl) (fun hg1 => ?_) (fun hc => ⟨fun hg1 => absurd hg1 hc, Ext.refl _⟩)
    obtain rfl := h18_ hg1
    refine (does_load (u := (.slice p5 A_x_.steps.length q6)) (ev rfl) Try.isAgg27 (Cells.at (Blk.cells ((hB14.ext E22).ext hu)) 2 rfl)).mono ?_; rintro _ _ ⟨rfl, rfl⟩
    exact ⟨fun _ => rfl, Ext.refl _⟩
  refine RW_d _ rfl (fun v => by dsimp only [List.set]; try rfl) (fun u hu hF => ?_) (fun v43 => ?_)
  · have h17_ : v40 = (Bo (β1 && β2)) := hF.1
    clear hF
    obtain rfl := h17_
    refine doesG_g (b := (β1 && β2)) rfl (yld rfl rfl) (fun hg1 => ?_) (fun hc => ⟨fun hg1 => absurd hg1 hc, Ext.refl _⟩)
    refine (does_fieldAddr (ev rfl) fa29_2).mono ?_; rintro _ _ ⟨rfl, rfl⟩
    exact ⟨fun _ => rfl, Ext.refl _⟩
  refine RW_d _ rfl (fun v => by dsimp only [List.set]; try rfl) (fun u hu hF => ?_) (fun v44 => ?_)
  · have h20_ : (β1 && β2) = true → v43 = (Pt b19 2) := hF.1
    have h17_ : v40 = (Bo (β1 && β2)) := hF.2.1
    clear hF
    obtain rfl := h17_
    refine doesG_g (b := (β1 && β2)) rfl (yld rfl rfl) (fun hg1 => ?_) (fun hc => ⟨fun hg1 => absurd hg1 hc, Ext.refl _⟩)
    obtain rfl := h20_ hg1
    refine (does_load (u := (.slice p8 A_y_.steps.length q9)) (ev rfl) Try.isAgg27 (Cells.at (Blk.cells (hB21.ext hu)) 2 rfl)).mono ?_; rintro _ _ ⟨rfl, rfl⟩
    exact ⟨fun _ => rfl, Ext.refl _⟩
  refine RW_d _ rfl (fun v => by dsimp only [List.set]; try rfl) (fun u hu hF => ?_) (fun v45 => ?_)
  · have h19_ : (β1 && β2) = true → v42 = (.slice p5 A_x_.steps.length q6) := hF.1
    have h21_ : (β1 && β2) = true → v44 = (.slice p8 A_y_.steps.length q9) := hF.2.1
    have h17_ : v40 = (Bo (β1 && β2)) := hF.2.2.1
    clear hF
    obtain rfl := h17_
    refine doesG_g (b := (β1 && β2)) rfl (yld rfl rfl) (fun hg1 => ?_) (fun hc => ⟨fun hg1 => absurd hg1 hc, Ext.refl _⟩)
    obtain rfl := h19_ hg1
    obtain rfl := h21_ hg1
    refine (does_call (args := #[(.slice p5 A_x_.steps.length q6), (.slice p8 A_y_.steps.length q9), (.func (.func 19) #[] #[])]) cal18 (evs rfl) (c_slices_EqualFunc_impl_Step_impl_Step_impl_Step_impl_Step (.slice p5 A_x_.steps.length q6) A_x_.steps (.slice p8 A_y_.steps.length q9) A_y_.steps (.func (.func 19) #[] #[]) (fun x y => sStep sameN x y) _ (Sl.ext (Sl.ext hs7 RStepT.mono X26) RStepT.mono hu) (Sl.ext (Sl.ext hs10 RStepT.mono X26) RStepT.mono hu) ⟨19, #[], #[], rfl, cal19, fun cs0 X0 cs1 X1 u hu' ha0 ha1 => by simpa using (c_impl_sameStep cs0 X0 cs1 X1 u ha0 ha1)⟩)).mono ?_; rintro v u' ⟨hx, hv⟩
    exact ⟨fun _ => hv.trans (by simp only [hβ3]), hx⟩
  refine RW_d _ rfl (fun v => by dsimp only [List.set]; try rfl) (fun u hu hF => ?_) (fun v46 => ?_)
  · have h17_ : v40 = (Bo (β1 && β2)) := hF.1
    have h22_ : (β1 && β2) = true → v45 = (Bo β3) := hF.2.1
    clear hF
    refine doesG_un rfl ?_
    skip
    obtain rfl := h17_
    refine (does_pick (b := (β1 && β2)) (ev rfl) (ev rfl) (ev rfl)).mono ?_; rintro _ _ ⟨rfl, rfl⟩; refine ⟨?_, Ext.refl _⟩; skip
    cases hbb : (β1 && β2) <;> simp [hbb] at h22_ ⊢
    all_goals (first | rfl | (subst h22_; rfl) | simp_all)
  refine RW_fin ?_; intro w47 E48 hP49
  obtain ⟨⟨⟨⟨⟨⟨⟨⟨⟨⟨⟨⟨⟨⟨⟨⟨⟨⟨⟨-, -⟩, -⟩, -⟩, -⟩, -⟩, -⟩, -⟩, -⟩, -⟩, -⟩, -⟩, -⟩, -⟩, -⟩, -⟩, -⟩, -⟩, -⟩, q50⟩ := hP49
  have X51 := Ext.gr X26 E48
  have q50 : v46 = (Bo ((β1 && β2) && β3)) := q50
  obtain rfl := q50
  show wpList _ _ _ _ (fr [(.agg #[(Iv A_x_.points), (Iv A_x_.values), (.slice p5 A_x_.steps.length q6)]), (.agg #[(Iv A_y_.points), (Iv A_y_.values), (.slice p8 A_y_.steps.length q9)]), (Pt b12 0), (Pt b19 0), (Bo false), v28, v29, v30, v31, v32, v33, v34, v35, v36, v37, v38, v39, v40, v41, v42, v43, v44, v45, (Bo ((β1 && β2) && β3))]) _
  refine q_is rfl rfl (does_assign (u := (Bo ((β1 && β2) && β3))) (ev rfl)) (by dsimp only [List.set]; try rfl) ?_
  refine wpList_nil (hK27 _ _ ?_)
  refine wp_ret ?_
  refine ret_val (v := (Bo ((β1 && β2) && β3))) (res_T rfl (slot rfl)) X51 ?_
  have x52 : (sProg sameN A_x_ A_y_) = ((β1 && β2) && β3) := by first | with_reducible rfl | (simp only [sProg, hβ1, hβ2, hβ3]; done) | (simp [sProg, hβ1, hβ2, hβ3]; done) | rfl
  exact (by first | rfl | rw [x52])

/- laws.sameFloat -/
theorem c_laws_sameFloat (x : Nat) (y : Nat) (w : World) : Gives Try.prog 42 #[(Fd x), (Fd y)] w (fun v w' => v = (Bo (sameF (cf .f64 x) (cf .f64 y)))) := by
  refine enter [(Fd x), (Fd y), Ud, Ud, Ud, Ud, Ud, Ud, Ud, Ud, Ud, Ud, Ud, Ud, Ud, Ud, Ud, Ud, Ud, Ud, Ud, Ud, Ud, Ud, Ud, Ud, Ud, Ud, Ud, Ud, Ud, Ud, Ud, Ud, Ud, Ud, Ud] Try.func42 rfl Try.ntmps42 rfl ?_
  refine wp_seq_k fun K1 hK1 => ?_
  refine wp_region_lit ?_
  refine q_is rfl rfl (does_assign (u := (Bo false)) (ev rfl)) (by dsimp only [List.set]; try rfl) ?_
  refine wpList_nil (hK1 _ _ ?_)
  refine wp_seq_k fun K2 hK2 => ?_
  refine wp_seq_k fun K3 hK3 => ?_
  obtain ⟨β1, hβ1⟩ : ∃ b : Bool, b = (fcmp .neq (ford .f64 (cf .f64 x) (cf .f64 x))) := ⟨_, rfl⟩
  obtain ⟨β2, hβ2⟩ : ∃ b : Bool, b = (fcmp .neq (ford .f64 (cf .f64 y) (cf .f64 y))) := ⟨_, rfl⟩
  refine region_text (
    [Fact.pure [] (fun v => v = (Fd x)),
    Fact.pure [] (fun v => v = (Fd x)),
    Fact.pure [5, 6] (fun v => v = (Bo β1)),
    Fact.pure [7] (fun v => v = (Bo β1)),
    Fact.pure [8] (fun v => β1 = false → v = (Fd y)),
    Fact.pure [8] (fun v => β1 = false → v = (Fd y)),
    Fact.pure [9, 10, 8] (fun v => β1 = false → v = (Bo β2)),
    Fact.pure [8, 11] (fun v => v = (Bo (β1 || β2)))]) (by simp [Fact.pure, Fact.mem]) ?_
  refine RW_d _ rfl (fun v => by dsimp only [List.set]; try rfl) (fun u hu hF => ?_) (fun v4 => ?_)
  · clear hF
    refine doesG_un rfl ?_
    refine (does_move (u := (Fd x)) (ev rfl)).mono ?_; rintro _ _ ⟨rfl, rfl⟩
    exact ⟨rfl, Ext.refl _⟩
  refine RW_d _ rfl (fun v => by dsimp only [List.set]; try rfl) (fun u hu hF => ?_) (fun v5 => ?_)
  · clear hF
    refine doesG_un rfl ?_
    refine (does_move (u := (Fd x)) (ev rfl)).mono ?_; rintro _ _ ⟨rfl, rfl⟩
    exact ⟨rfl, Ext.refl _⟩
  refine RW_d _ rfl (fun v => by dsimp only [List.set]; try rfl) (fun u hu hF => ?_) (fun v6 => ?_)
  · have h5_ : v4 = (Fd x) := hF.1
    have h6_ : v5 = (Fd x) := hF.2.1
    clear hF
    refine doesG_un rfl ?_
    obtain rfl := h5_
    obtain rfl := h6_
    refine (does_fcmp (.inr (.inl rfl)) (ev rfl) (ev rfl)).mono ?_; rintro _ _ ⟨rfl, rfl⟩
    exact ⟨(by first | rfl | (show _ = _; simp only [hβ1])), Ext.refl _⟩
  refine RW_d _ rfl (fun v => by dsimp only [List.set]; try rfl) (fun u hu hF => ?_) (fun v7 => ?_)
  · have h7_ : v6 = (Bo β1) := hF.1
    clear hF
    refine doesG_un rfl ?_
    obtain rfl := h7_
    refine (does_move (u := (Bo β1)) (ev rfl)).mono ?_; rintro _ _ ⟨rfl, rfl⟩
    exact ⟨rfl, Ext.refl _⟩
  refine RW_d _ rfl (fun v => by dsimp only [List.set]; try rfl) (fun u hu hF => ?_) (fun v8 => ?_)
  · have h8_ : v7 = (Bo β1) := hF.1
    clear hF
    obtain rfl := h8_
    refine doesG_g (b := β1) rfl (yld rfl rfl) (fun hg1 => ?_) (fun hc => ⟨fun hg1 => absurd hg1 hc, Ext.refl _⟩)
    refine (does_move (u := (Fd y)) (ev rfl)).mono ?_; rintro _ _ ⟨rfl, rfl⟩
    exact ⟨fun _ => rfl, Ext.refl _⟩
  refine RW_d _ rfl (fun v => by dsimp only [List.set]; try rfl) (fun u hu hF => ?_) (fun v9 => ?_)
  · have h8_ : v7 = (Bo β1) := hF.1
    clear hF
    obtain rfl := h8_
    refine doesG_g (b := β1) rfl (yld rfl rfl) (fun hg1 => ?_) (fun hc => ⟨fun hg1 => absurd hg1 hc, Ext.refl _⟩)
    refine (does_move (u := (Fd y)) (ev rfl)).mono ?_; rintro _ _ ⟨rfl, rfl⟩
    exact ⟨fun _ => rfl, Ext.refl _⟩
  refine RW_d _ rfl (fun v => by dsimp only [List.set]; try rfl) (fun u hu hF => ?_) (fun v10 => ?_)
  · have h9_ : β1 = false → v8 = (Fd y) := hF.1
    have h10_ : β1 = false → v9 = (Fd y) := hF.2.1
    have h8_ : v7 = (Bo β1) := hF.2.2.1
    clear hF
    obtain rfl := h8_
    refine doesG_g (b := β1) rfl (yld rfl rfl) (fun hg1 => ?_) (fun hc => ⟨fun hg1 => absurd hg1 hc, Ext.refl _⟩)
    obtain rfl := h9_ hg1
    obtain rfl := h10_ hg1
    refine (does_fcmp (.inr (.inl rfl)) (ev rfl) (ev rfl)).mono ?_; rintro _ _ ⟨rfl, rfl⟩
    exact ⟨fun _ => (by first | rfl | (show _ = _; simp only [hβ2])), Ext.refl _⟩
  refine RW_d _ rfl (fun v => by dsimp only [List.set]; try rfl) (fun u hu hF => ?_) (fun v11 => ?_)
  · have h8_ : v7 = (Bo β1) := hF.1
    have h11_ : β1 = false → v10 = (Bo β2) := hF.2.1
    clear hF
    refine doesG_un rfl ?_
    skip
    obtain rfl := h8_
    refine (does_pick (b := β1) (ev rfl) (ev rfl) (ev rfl)).mono ?_; rintro _ _ ⟨rfl, rfl⟩; refine ⟨?_, Ext.refl _⟩; skip
    cases hbb : β1 <;> simp [hbb] at h11_ ⊢
    all_goals (first | rfl | (subst h11_; rfl) | simp_all)
  refine RW_fin ?_; intro w12 E13 hP14
  obtain ⟨⟨⟨⟨⟨⟨⟨⟨-, -⟩, -⟩, -⟩, -⟩, -⟩, -⟩, -⟩, q15⟩ := hP14
  have X16 := Ext.gr (Ext.refl w) E13
  have q15 : v11 = (Bo (β1 || β2)) := q15
  obtain rfl := q15
  show wpList _ _ _ _ (fr [(Fd x), (Fd y), Ud, Ud, (Bo false), v4, v5, v6, v7, v8, v9, v10, (Bo (β1 || β2)), Ud, Ud, Ud, Ud, Ud, Ud, Ud, Ud, Ud, Ud, Ud, Ud, Ud, Ud, Ud, Ud, Ud, Ud, Ud, Ud, Ud, Ud, Ud, Ud]) _
  refine wpList_nil (hK3 _ _ ?_)
  refine wp_cond_split (t := β1 || β2) (ev rfl) (fun c17 => ?_) (fun c17 => ?_)
  · have c17' := c17
    (try simp only [hβ1, hβ2] at c17')
    (try simp only [icmp, Bool.and_eq_true, Bool.or_eq_true, Bool.and_eq_false_iff, Bool.or_eq_false_iff, Bool.not_eq_true', Bool.not_eq_false', decide_eq_true_eq, decide_eq_false_iff_not, beq_iff_eq, bne_iff_ne, beq_eq_false_iff_ne, bne_eq_false_iff_eq] at c17')
    refine wp_seq_k fun K18 hK18 => ?_
    obtain ⟨β3, hβ3⟩ : ∃ b : Bool, b = (fcmp .neq (ford .f64 (cf .f64 x) (cf .f64 x))) := ⟨_, rfl⟩
    obtain ⟨β4, hβ4⟩ : ∃ b : Bool, b = (fcmp .neq (ford .f64 (cf .f64 y) (cf .f64 y))) := ⟨_, rfl⟩
    refine region_text (
      [Fact.pure [] (fun v => v = (Fd x)),
    Fact.pure [] (fun v => v = (Fd x)),
    Fact.pure [13, 14] (fun v => v = (Bo β3)),
    Fact.pure [15] (fun v => v = (Bo β3)),
    Fact.pure [16] (fun v => β3 = true → v = (Fd y)),
    Fact.pure [16] (fun v => β3 = true → v = (Fd y)),
    Fact.pure [17, 18, 16] (fun v => β3 = true → v = (Bo β4)),
    Fact.pure [16, 19] (fun v => v = (Bo (β3 && β4)))]) (by simp [Fact.pure, Fact.mem]) ?_
    refine RW_d _ rfl (fun v => by dsimp only [List.set]; try rfl) (fun u hu hF => ?_) (fun v19 => ?_)
    · clear hF
      refine doesG_un rfl ?_
      refine (does_move (u := (Fd x)) (ev rfl)).mono ?_; rintro _ _ ⟨rfl, rfl⟩
      exact ⟨rfl, Ext.refl _⟩
    refine RW_d _ rfl (fun v => by dsimp only [List.set]; try rfl) (fun u hu hF => ?_) (fun v20 => ?_)
    · clear hF
      refine doesG_un rfl ?_
      refine (does_move (u := (Fd x)) (ev rfl)).mono ?_; rintro _ _ ⟨rfl, rfl⟩
      exact ⟨rfl, Ext.refl _⟩
    refine RW_d _ rfl (fun v => by dsimp only [List.set]; try rfl) (fun u hu hF => ?_) (fun v21 => ?_)
    · have h13_ : v19 = (Fd x) := hF.1
      have h14_ : v20 = (Fd x) := hF.2.1
      clear hF
      refine doesG_un rfl ?_
      obtain rfl := h13_
      obtain rfl := h14_
      refine (does_fcmp (.inr (.inl rfl)) (ev rfl) (ev rfl)).mono ?_; rintro _ _ ⟨rfl, rfl⟩
      exact ⟨(by first | rfl | (show _ = _; simp only [hβ3])), Ext.refl _⟩
    refine RW_d _ rfl (fun v => by dsimp only [List.set]; try rfl) (fun u hu hF => ?_) (fun v22 => ?_)
    · have h15_ : v21 = (Bo β3) := hF.1
      clear hF
      refine doesG_un rfl ?_
      obtain rfl := h15_
      refine (does_move (u := (Bo β3)) (ev rfl)).mono ?_; rintro _ _ ⟨rfl, rfl⟩
      exact ⟨rfl, Ext.refl _⟩
    refine RW_d _ rfl (fun v => by dsimp only [List.set]; try rfl) (fun u hu hF => ?_) (fun v23 => ?_)
    · have h16_ : v22 = (Bo β3) := hF.1
      clear hF
      obtain rfl := h16_
      refine doesG_g (b := β3) rfl (yld rfl rfl) (fun hg1 => ?_) (fun hc => ⟨fun hg1 => absurd hg1 hc, Ext.refl _⟩)
      refine (does_move (u := (Fd y)) (ev rfl)).mono ?_; rintro _ _ ⟨rfl, rfl⟩
      exact ⟨fun _ => rfl, Ext.refl _⟩
    refine RW_d _ rfl (fun v => by dsimp only [List.set]; try rfl) (fun u hu hF => ?_) (fun v24 => ?_)
    · have h16_ : v22 = (Bo β3) := hF.1
      clear hF
      obtain rfl := h16_
      refine doesG_g (b := β3) rfl (yld rfl rfl) (fun hg1 => ?_) (fun hc => ⟨fun hg1 => absurd hg1 hc, Ext.refl _⟩)
      refine (does_move (u := (Fd y)) (ev rfl)).mono ?_; rintro _ _ ⟨rfl, rfl⟩
      exact ⟨fun _ => rfl, Ext.refl _⟩
    refine RW_d _ rfl (fun v => by dsimp only [List.set]; try rfl) (fun u hu hF => ?_) (fun v25 => ?_)
    · have h17_ : β3 = true → v23 = (Fd y) := hF.1
      have h18_ : β3 = true → v24 = (Fd y) := hF.2.1
      have h16_ : v22 = (Bo β3) := hF.2.2.1
      clear hF
      obtain rfl := h16_
      refine doesG_g (b := β3) rfl (yld rfl rfl) (fun hg1 => ?_) (fun hc => ⟨fun hg1 => absurd hg1 hc, Ext.refl _⟩)
      obtain rfl := h17_ hg1
      obtain rfl := h18_ hg1
      refine (does_fcmp (.inr (.inl rfl)) (ev rfl) (ev rfl)).mono ?_; rintro _ _ ⟨rfl, rfl⟩
      exact ⟨fun _ => (by first | rfl | (show _ = _; simp only [hβ4])), Ext.refl _⟩
    refine RW_d _ rfl (fun v => by dsimp only [List.set]; try rfl) (fun u hu hF => ?_) (fun v26 => ?_)
    · have h16_ : v22 = (Bo β3) := hF.1
      have h19_ : β3 = true → v25 = (Bo β4) := hF.2.1
      clear hF
      refine doesG_un rfl ?_
      skip
      obtain rfl := h16_
      refine (does_pick (b := β3) (ev rfl) (ev rfl) (ev rfl)).mono ?_; rintro _ _ ⟨rfl, rfl⟩; refine ⟨?_, Ext.refl _⟩; skip
      cases hbb : β3 <;> simp [hbb] at h19_ ⊢
      all_goals (first | rfl | (subst h19_; rfl) | simp_all)
    refine RW_fin ?_; intro w27 E28 hP29
    obtain ⟨⟨⟨⟨⟨⟨⟨⟨-, -⟩, -⟩, -⟩, -⟩, -⟩, -⟩, -⟩, q30⟩ := hP29
    have X31 := Ext.gr X16 E28
    have q30 : v26 = (Bo (β3 && β4)) := q30
    obtain rfl := q30
    show wpList _ _ _ _ (fr [(Fd x), (Fd y), Ud, Ud, (Bo false), v4, v5, v6, v7, v8, v9, v10, (Bo (β1 || β2)), v19, v20, v21, v22, v23, v24, v25, (Bo (β3 && β4)), Ud, Ud, Ud, Ud, Ud, Ud, Ud, Ud, Ud, Ud, Ud, Ud, Ud, Ud, Ud, Ud]) _
    refine q_is rfl rfl (does_assign (u := (Bo (β3 && β4))) (ev rfl)) (by dsimp only [List.set]; try rfl) ?_
    refine wpList_nil (hK18 _ _ ?_)
    refine wp_ret ?_
    dsimp only [Exit.then, Exit.inBlock]
    refine ret_val (v := (Bo (β3 && β4))) (res_T rfl (slot rfl)) X31 ?_
    try simp only [hβ1, hβ2, hβ3, hβ4] at c17
    have x32 : (sameF (cf .f64 x) (cf .f64 y)) = (β3 && β4) := by first | with_reducible rfl | (simp only [sameF, hβ1, hβ2, hβ3, hβ4, c17]; done) | (simp [sameF, hβ1, hβ2, hβ3, hβ4, c17]; done) | (revert c17; simp +contextual [sameF, hβ1, hβ2, hβ3, hβ4]; done) | (rcases c17' with hh | hh <;> simp only [hh, sameF, hβ1, hβ2, hβ3, hβ4, c17]; done) | (rcases c17' with hh | hh <;> simp_all [sameF]; done) | (rcases c17' with hh | hh | hh <;> simp_all [sameF]; done) | (rcases c17' with hh | hh | hh | hh <;> simp_all [sameF]; done) | (simp_all [sameF]; done) | rfl
    exact (by first | rfl | rw [x32])
  have c17' := c17
  (try simp only [hβ1, hβ2] at c17')
  (try simp only [icmp, Bool.and_eq_true, Bool.or_eq_true, Bool.and_eq_false_iff, Bool.or_eq_false_iff, Bool.not_eq_true', Bool.not_eq_false', decide_eq_true_eq, decide_eq_false_iff_not, beq_iff_eq, bne_iff_ne, beq_eq_false_iff_ne, bne_eq_false_iff_eq] at c17')
  refine wp_skip (hK2 _ _ ?_)
  refine wp_seq_k fun K33 hK33 => ?_
  refine wp_seq_k fun K34 hK34 => ?_
  obtain ⟨β5, hβ5⟩ : ∃ b : Bool, b = (fcmp .eql (ford .f64 (cf .f64 x) (cf .f64 0))) := ⟨_, rfl⟩
  obtain ⟨β6, hβ6⟩ : ∃ b : Bool, b = (fcmp .eql (ford .f64 (cf .f64 y) (cf .f64 0))) := ⟨_, rfl⟩
  refine region_text (
    [Fact.pure [] (fun v => v = (Fd x)),
    Fact.pure [21] (fun v => v = (Bo β5)),
    Fact.pure [22] (fun v => v = (Bo β5)),
    Fact.pure [23] (fun v => β5 = true → v = (Fd y)),
    Fact.pure [24, 23] (fun v => β5 = true → v = (Bo β6)),
    Fact.pure [23, 25] (fun v => v = (Bo (β5 && β6)))]) (by simp [Fact.pure, Fact.mem]) ?_
  refine RW_d _ rfl (fun v => by dsimp only [List.set]; try rfl) (fun u hu hF => ?_) (fun v35 => ?_)
  · clear hF
    refine doesG_un rfl ?_
    refine (does_move (u := (Fd x)) (ev rfl)).mono ?_; rintro _ _ ⟨rfl, rfl⟩
    exact ⟨rfl, Ext.refl _⟩
  refine RW_d _ rfl (fun v => by dsimp only [List.set]; try rfl) (fun u hu hF => ?_) (fun v36 => ?_)
  · have h21_ : v35 = (Fd x) := hF.1
    clear hF
    refine doesG_un rfl ?_
    obtain rfl := h21_
    refine (does_fcmp (.inl rfl) (ev rfl) (ev rfl)).mono ?_; rintro _ _ ⟨rfl, rfl⟩
    exact ⟨(by first | rfl | (show _ = _; simp only [hβ5])), Ext.refl _⟩
  refine RW_d _ rfl (fun v => by dsimp only [List.set]; try rfl) (fun u hu hF => ?_) (fun v37 => ?_)
  · have h22_ : v36 = (Bo β5) := hF.1
    clear hF
    refine doesG_un rfl ?_
    obtain rfl := h22_
    refine (does_move (u := (Bo β5)) (ev rfl)).mono ?_; rintro _ _ ⟨rfl, rfl⟩
    exact ⟨rfl, Ext.refl _⟩
  refine RW_d _ rfl (fun v => by dsimp only [List.set]; try rfl) (fun u hu hF => ?_) (fun v38 => ?_)
  · have h23_ : v37 = (Bo β5) := hF.1
    clear hF
    obtain rfl := h23_
    refine doesG_g (b := β5) rfl (yld rfl rfl) (fun hg1 => ?_) (fun hc => ⟨fun hg1 => absurd hg1 hc, Ext.refl _⟩)
    refine (does_move (u := (Fd y)) (ev rfl)).mono ?_; rintro _ _ ⟨rfl, rfl⟩
    exact ⟨fun _ => rfl, Ext.refl _⟩
  refine RW_d _ rfl (fun v => by dsimp only [List.set]; try rfl) (fun u hu hF => ?_) (fun v39 => ?_)
  · have h24_ : β5 = true → v38 = (Fd y) := hF.1
    have h23_ : v37 = (Bo β5) := hF.2.1
    clear hF
    obtain rfl := h23_
    refine doesG_g (b := β5) rfl (yld rfl rfl) (fun hg1 => ?_) (fun hc => ⟨fun hg1 => absurd hg1 hc, Ext.refl _⟩)
    obtain rfl := h24_ hg1
    refine (does_fcmp (.inl rfl) (ev rfl) (ev rfl)).mono ?_; rintro _ _ ⟨rfl, rfl⟩
    exact ⟨fun _ => (by first | rfl | (show _ = _; simp only [hβ6])), Ext.refl _⟩
  refine RW_d _ rfl (fun v => by dsimp only [List.set]; try rfl) (fun u hu hF => ?_) (fun v40 => ?_)
  · have h23_ : v37 = (Bo β5) := hF.1
    have h25_ : β5 = true → v39 = (Bo β6) := hF.2.1
    clear hF
    refine doesG_un rfl ?_
    skip
    obtain rfl := h23_
    refine (does_pick (b := β5) (ev rfl) (ev rfl) (ev rfl)).mono ?_; rintro _ _ ⟨rfl, rfl⟩; refine ⟨?_, Ext.refl _⟩; skip
    cases hbb : β5 <;> simp [hbb] at h25_ ⊢
    all_goals (first | rfl | (subst h25_; rfl) | simp_all)
  refine RW_fin ?_; intro w41 E42 hP43
  obtain ⟨⟨⟨⟨⟨⟨-, -⟩, -⟩, -⟩, -⟩, -⟩, q44⟩ := hP43
  have X45 := Ext.gr X16 E42
  have q44 : v40 = (Bo (β5 && β6)) := q44
  obtain rfl := q44
  show wpList _ _ _ _ (fr [(Fd x), (Fd y), Ud, Ud, (Bo false), v4, v5, v6, v7, v8, v9, v10, (Bo (β1 || β2)), Ud, Ud, Ud, Ud, Ud, Ud, Ud, Ud, v35, v36, v37, v38, v39, (Bo (β5 && β6)), Ud, Ud, Ud, Ud, Ud, Ud, Ud, Ud, Ud, Ud]) _
  refine wpList_nil (hK34 _ _ ?_)
  refine wp_cond_split (t := β5 && β6) (ev rfl) (fun c46 => ?_) (fun c46 => ?_)
  · have c46' := c46
    (try simp only [hβ1, hβ2, hβ5, hβ6] at c46')
    (try simp only [icmp, Bool.and_eq_true, Bool.or_eq_true, Bool.and_eq_false_iff, Bool.or_eq_false_iff, Bool.not_eq_true', Bool.not_eq_false', decide_eq_true_eq, decide_eq_false_iff_not, beq_iff_eq, bne_iff_ne, beq_eq_false_iff_ne, bne_eq_false_iff_eq] at c46')
    refine wp_seq_k fun K47 hK47 => ?_
    refine wp_region_lit ?_
    refine q_is rfl rfl (does_move (u := (Fd x)) (ev rfl)) (by dsimp only [List.set]; try rfl) ?_
    refine seqd rfl rfl (does_float (.inr (.inr (.inr rfl))) (ev rfl) (ev rfl)) ?_; rintro _ w51 ⟨r48, rfl, h49, E50⟩
    have X52 := Ext.gr X45 E50
    show wpList _ _ _ _ (fr [(Fd x), (Fd y), Ud, Ud, (Bo false), v4, v5, v6, v7, v8, v9, v10, (Bo (β1 || β2)), Ud, Ud, Ud, Ud, Ud, Ud, Ud, Ud, v35, v36, v37, v38, v39, (Bo (β5 && β6)), (Fd x), (Fd r48), Ud, Ud, Ud, Ud, Ud, Ud, Ud, Ud]) _
    refine q_is rfl rfl (does_fcmp (.inr (.inr (.inr (.inr (.inl rfl))))) (ev rfl) (ev rfl)) (by dsimp only [List.set]; try rfl) ?_
    refine q_is rfl rfl (does_move (u := (Fd y)) (ev rfl)) (by dsimp only [List.set]; try rfl) ?_
    refine seqd rfl rfl (does_float (.inr (.inr (.inr rfl))) (ev rfl) (ev rfl)) ?_; rintro _ w56 ⟨r53, rfl, h54, E55⟩
    have X57 := Ext.gr X52 E55
    show wpList _ _ _ _ (fr [(Fd x), (Fd y), Ud, Ud, (Bo false), v4, v5, v6, v7, v8, v9, v10, (Bo (β1 || β2)), Ud, Ud, Ud, Ud, Ud, Ud, Ud, Ud, v35, v36, v37, v38, v39, (Bo (β5 && β6)), (Fd x), (Fd r48), (Bo (fcmp .gtr (ford .f64 (cf .f64 r48) (cf .f64 0)))), (Fd y), (Fd r53), Ud, Ud, Ud, Ud, Ud]) _
    refine q_is rfl rfl (does_fcmp (.inr (.inr (.inr (.inr (.inl rfl))))) (ev rfl) (ev rfl)) (by dsimp only [List.set]; try rfl) ?_
    refine q_is rfl rfl (does_beq (p := (fcmp .gtr (ford .f64 (cf .f64 r48) (cf .f64 0)))) (q := (fcmp .gtr (ford .f64 (cf .f64 r53) (cf .f64 0)))) Try.underlying4 (ev rfl) (ev rfl)) (by dsimp only [List.set]; try rfl) ?_
    refine q_is rfl rfl (does_assign (u := (Bo ((fcmp .gtr (ford .f64 (cf .f64 r48) (cf .f64 0))) == (fcmp .gtr (ford .f64 (cf .f64 r53) (cf .f64 0)))))) (ev rfl)) (by dsimp only [List.set]; try rfl) ?_
    refine wpList_nil (hK47 _ _ ?_)
    refine wp_ret ?_
    dsimp only [Exit.then, Exit.inBlock]
    refine ret_val (v := (Bo ((fcmp .gtr (ford .f64 (cf .f64 r48) (cf .f64 0))) == (fcmp .gtr (ford .f64 (cf .f64 r53) (cf .f64 0)))))) (res_T rfl (slot rfl)) X57 ?_
    try simp only [hβ1, hβ2, hβ5, hβ6, h49, h54] at c17 c46
    have x58 : (sameF (cf .f64 x) (cf .f64 y)) = ((fcmp .gtr (ford .f64 (cf .f64 r48) (cf .f64 0))) == (fcmp .gtr (ford .f64 (cf .f64 r53) (cf .f64 0)))) := by first | with_reducible rfl | (simp only [sameF, hβ1, hβ2, hβ5, hβ6, h49, h54, c17, c46]; done) | (simp [sameF, hβ1, hβ2, hβ5, hβ6, h49, h54, c17, c46]; done) | (revert c17 c46; simp +contextual [sameF, hβ1, hβ2, hβ5, hβ6, h49, h54]; done) | (rcases c17' with hh | hh <;> simp only [hh, sameF, hβ1, hβ2, hβ5, hβ6, h49, h54, c17, c46]; done) | (rcases c46' with hh | hh <;> simp only [hh, sameF, hβ1, hβ2, hβ5, hβ6, h49, h54, c17, c46]; done) | (rcases c46' with hh | hh <;> simp_all [sameF]; done) | (rcases c46' with hh | hh | hh <;> simp_all [sameF]; done) | (rcases c46' with hh | hh | hh | hh <;> simp_all [sameF]; done) | (simp_all [sameF]; done) | rfl
    exact (by first | rfl | rw [x58])
  have c46' := c46
  (try simp only [hβ1, hβ2, hβ5, hβ6] at c46')
  (try simp only [icmp, Bool.and_eq_true, Bool.or_eq_true, Bool.and_eq_false_iff, Bool.or_eq_false_iff, Bool.not_eq_true', Bool.not_eq_false', decide_eq_true_eq, decide_eq_false_iff_not, beq_iff_eq, bne_iff_ne, beq_eq_false_iff_ne, bne_eq_false_iff_eq] at c46')
  refine wp_skip (hK33 _ _ ?_)
  refine wp_seq_k fun K59 hK59 => ?_
  refine wp_region_lit ?_
  refine q_is rfl rfl (does_move (u := (Fd x)) (ev rfl)) (by dsimp only [List.set]; try rfl) ?_
  refine q_is rfl rfl (does_move (u := (Fd y)) (ev rfl)) (by dsimp only [List.set]; try rfl) ?_
  refine q_is rfl rfl (does_fcmp (.inl rfl) (ev rfl) (ev rfl)) (by dsimp only [List.set]; try rfl) ?_
  refine q_is rfl rfl (does_assign (u := (Bo (fcmp .eql (ford .f64 (cf .f64 x) (cf .f64 y))))) (ev rfl)) (by dsimp only [List.set]; try rfl) ?_
  refine wpList_nil (hK59 _ _ ?_)
  refine wp_ret ?_
  refine ret_val (v := (Bo (fcmp .eql (ford .f64 (cf .f64 x) (cf .f64 y))))) (res_T rfl (slot rfl)) X45 ?_
  try simp only [hβ1, hβ2, hβ5, hβ6] at c17 c46
  have x60 : (sameF (cf .f64 x) (cf .f64 y)) = (fcmp .eql (ford .f64 (cf .f64 x) (cf .f64 y))) := by first | with_reducible rfl | (simp only [sameF, hβ1, hβ2, hβ5, hβ6, c17, c46]; done) | (simp [sameF, hβ1, hβ2, hβ5, hβ6, c17, c46]; done) | (revert c17 c46; simp +contextual [sameF, hβ1, hβ2, hβ5, hβ6]; done) | (rcases c17' with hh | hh <;> simp only [hh, sameF, hβ1, hβ2, hβ5, hβ6, c17, c46]; done) | (rcases c46' with hh | hh <;> simp only [hh, sameF, hβ1, hβ2, hβ5, hβ6, c17, c46]; done) | (rcases c46' with hh | hh <;> simp_all [sameF]; done) | (rcases c46' with hh | hh | hh <;> simp_all [sameF]; done) | (rcases c46' with hh | hh | hh | hh <;> simp_all [sameF]; done) | (simp_all [sameF]; done) | rfl
  exact (by first | rfl | rw [x60])

/- laws.eqFloat32S -/
theorem c_laws_eqFloat32S (a : Value) (L_a : List Nat) (b : Value) (L_b : List Nat) (w : World) (hv_a : Sl RF 1 w a L_a) (hv_b : Sl RF 1 w b L_b) : Gives Try.prog 27 #[a, b] w (fun v w' => v = (Bo (sameL L_a L_b))) := by
  have hlen_a := Sl.len hv_a; obtain ⟨p_a, q_a, rfl⟩ := Sl.shape hv_a
  have hlen_b := Sl.len hv_b; obtain ⟨p_b, q_b, rfl⟩ := Sl.shape hv_b
  refine enter [(.slice p_a L_a.length q_a), (.slice p_b L_b.length q_b), Ud, Ud, Ud, Ud, Ud, Ud, Ud, Ud, Ud, Ud, Ud, Ud, Ud, Ud, Ud, Ud, Ud, Ud, Ud, Ud, Ud, Ud, Ud, Ud, Ud, Ud, Ud] Try.func27 rfl Try.ntmps27 rfl ?_
  refine wp_seq_k fun K1 hK1 => ?_
  refine wp_region_lit ?_
  refine q_is rfl rfl (does_assign (u := (Bo false)) (ev rfl)) (by dsimp only [List.set]; try rfl) ?_
  refine wpList_nil (hK1 _ _ ?_)
  refine wp_seq_k fun K2 hK2 => ?_
  refine wp_seq_k fun K3 hK3 => ?_
  refine wp_region_lit ?_
  refine q_is rfl rfl (does_move (u := (.slice p_a L_a.length q_a)) (ev rfl)) (by dsimp only [List.set]; try rfl) ?_
  refine q_is rfl rfl (does_len_slice Try.underlying32 (ev rfl)) (by dsimp only [List.set]; try rfl) ?_
  refine q_is rfl rfl (does_move (u := (.slice p_b L_b.length q_b)) (ev rfl)) (by dsimp only [List.set]; try rfl) ?_
  refine q_is rfl rfl (does_len_slice Try.underlying32 (ev rfl)) (by dsimp only [List.set]; try rfl) ?_
  refine q_is rfl rfl (does_icmp (p := (L_a.length : Int)) (q := (L_b.length : Int)) (.inr (.inl rfl)) (ev rfl) (ev rfl)) (by dsimp only [List.set]; try rfl) ?_
  refine wpList_nil (hK3 _ _ ?_)
  refine wp_cond_split (t := icmp .neq (L_a.length : Int) (L_b.length : Int)) (ev rfl) (fun c4 => ?_) (fun c4 => ?_)
  · have c4' := c4
    (try simp only [icmp, Bool.and_eq_true, Bool.or_eq_true, Bool.and_eq_false_iff, Bool.or_eq_false_iff, Bool.not_eq_true', Bool.not_eq_false', decide_eq_true_eq, decide_eq_false_iff_not, beq_iff_eq, bne_iff_ne, beq_eq_false_iff_ne, bne_eq_false_iff_eq] at c4')
    refine wp_seq_k fun K5 hK5 => ?_
    refine wp_region_lit ?_
    refine q_is rfl rfl (does_assign (u := (Bo false)) (ev rfl)) (by dsimp only [List.set]; try rfl) ?_
    refine wpList_nil (hK5 _ _ ?_)
    refine wp_ret ?_
    dsimp only [Exit.then, Exit.inBlock]
    refine ret_val (v := (Bo false)) (res_T rfl (slot rfl)) (Ext.refl w) ?_
    have x6 : (sameL L_a L_b) = false := by first | exact (sameL_len (by omega)) | exact (sameL_not (by omega) (by assumption) (by assumption) (by simp_all)) | exact (sameL_all (by omega) (by omega) hs)
    exact (by first | rfl | rw [x6])
  have c4' := c4
  (try simp only [icmp, Bool.and_eq_true, Bool.or_eq_true, Bool.and_eq_false_iff, Bool.or_eq_false_iff, Bool.not_eq_true', Bool.not_eq_false', decide_eq_true_eq, decide_eq_false_iff_not, beq_iff_eq, bne_iff_ne, beq_eq_false_iff_ne, bne_eq_false_iff_eq] at c4')
  refine wp_skip (hK2 _ _ ?_)
  refine wp_seq_k fun K7 hK7 => ?_
  refine wp_seq_k fun K8 hK8 => ?_
  refine wp_region_lit ?_
  refine q_is rfl rfl (does_assign (u := (Iv 0)) (ev rfl)) (by dsimp only [List.set]; try rfl) ?_
  refine wpList_nil (hK8 _ _ ?_)
  refine wp_block ?_
  refine loop_ghost (σ := Nat) (fun k a w' => ∃ u9 : Nat → Value, a = fr [(.slice p_a L_a.length q_a), (.slice p_b L_b.length q_b), Ud, Ud, (u9 4), (Iv (k : Int)), (.slice p_a L_a.length q_a), (Iv (L_a.length : Int)), (.slice p_b L_b.length q_b), (Iv (L_b.length : Int)), (Bo (icmp .neq (L_a.length : Int) (L_b.length : Int))), (u9 11), (u9 12), (u9 13), (u9 14), (u9 15), (u9 16), (u9 17), (u9 18), (u9 19), (u9 20), (u9 21), (u9 22), (u9 23), (u9 24), (u9 25), (u9 26), (u9 27), (u9 28)] ∧ Ext w w' ∧ (k ≤ L_a.length ∧ SameTo L_a L_b k)) (fun k => L_a.length - k) 0 ?_ ?_
  · refine ⟨fun t => (([(.slice p_a L_a.length q_a), (.slice p_b L_b.length q_b), Ud, Ud, (Bo false), (Iv 0), (.slice p_a L_a.length q_a), (Iv (L_a.length : Int)), (.slice p_b L_b.length q_b), (Iv (L_b.length : Int)), (Bo (icmp .neq (L_a.length : Int) (L_b.length : Int))), Ud, Ud, Ud, Ud, Ud, Ud, Ud, Ud, Ud, Ud, Ud, Ud, Ud, Ud, Ud, Ud, Ud, Ud] : List Value)[t]?).getD undef, rfl, Ext.refl _, ?_⟩
    exact ⟨Nat.zero_le _, SameTo.zero⟩
  · rintro k a w10 ⟨u9, rfl, E11, ⟨hk, hs⟩⟩
    have X13 := Ext.gr (Ext.refl w) E11
    refine wp_seq_k fun K14 hK14 => ?_
    refine wp_seq_k fun K15 hK15 => ?_
    refine wp_region_lit ?_
    refine q_is rfl rfl (does_move (u := (Iv (k : Int))) (ev rfl)) (by dsimp only [List.set]; try rfl) ?_
    refine q_is rfl rfl (does_move (u := (.slice p_a L_a.length q_a)) (ev rfl)) (by dsimp only [List.set]; try rfl) ?_
    refine q_is rfl rfl (does_len_slice Try.underlying32 (ev rfl)) (by dsimp only [List.set]; try rfl) ?_
    refine q_is rfl rfl (does_icmp (p := (k : Int)) (q := (L_a.length : Int)) (.inr (.inr (.inl rfl))) (ev rfl) (ev rfl)) (by dsimp only [List.set]; try rfl) ?_
    refine wpList_nil (hK15 _ _ ?_)
    refine wp_cond_split (t := icmp .lss (k : Int) (L_a.length : Int)) (ev rfl) (fun c16 => ?_) (fun c16 => ?_)
    · have c16' := c16
      (try simp only [icmp, Bool.and_eq_true, Bool.or_eq_true, Bool.and_eq_false_iff, Bool.or_eq_false_iff, Bool.not_eq_true', Bool.not_eq_false', decide_eq_true_eq, decide_eq_false_iff_not, beq_iff_eq, bne_iff_ne, beq_eq_false_iff_ne, bne_eq_false_iff_eq] at c16')
      refine wp_skip (hK14 _ _ ?_)
      refine wp_seq_k fun K17 hK17 => ?_
      refine wp_block ?_
      refine wp_seq_k fun K18 hK18 => ?_
      obtain ⟨el1, hel1⟩ : ∃ e, L_a[k]? = some e := ⟨_, List.getElem?_eq_getElem (by omega)⟩
      obtain ⟨el2, hel2⟩ : ∃ e, L_b[k]? = some e := ⟨_, List.getElem?_eq_getElem (by omega)⟩
      obtain ⟨β1, hβ1⟩ : ∃ b : Bool, b = (sameF (fwid el1) (fwid el2)) := ⟨_, rfl⟩
      refine region_draw (
        [Fact.pure [] (fun v => v = (.slice p_a L_a.length q_a)),
    Fact.pure [] (fun v => v = (Iv (k : Int))),
    Fact.mem [17, 18] (fun v w' => PtrR RF w' v el1) (by intro v w1 w2 hx h; exact h.ext RF.mono hx),
    Fact.pure [19] (fun v => ∃ r_1 : Nat, v = (Fl r_1) ∧ cf .f32 r_1 = el1),
    Fact.pure [20] (fun v => ∃ r_1 : Nat, v = (Fd r_1) ∧ cf .f64 r_1 = fwid el1),
    Fact.pure [] (fun v => v = (.slice p_b L_b.length q_b)),
    Fact.pure [] (fun v => v = (Iv (k : Int))),
    Fact.mem [22, 23] (fun v w' => PtrR RF w' v el2) (by intro v w1 w2 hx h; exact h.ext RF.mono hx),
    Fact.pure [24] (fun v => ∃ r_1 : Nat, v = (Fl r_1) ∧ cf .f32 r_1 = el2),
    Fact.pure [25] (fun v => ∃ r_1 : Nat, v = (Fd r_1) ∧ cf .f64 r_1 = fwid el2),
    Fact.pure [21, 26] (fun v => v = (Bo β1)),
    Fact.pure [27] (fun v => v = (Bo (!β1)))]) mixed (by kernel_rfl) (by intro _ _ d _ _ h; cases d <;> exact h) ?_
      obtain ⟨w19, hw21⟩ : ∃ w', w' = World.drew w10 := ⟨_, rfl⟩; rw [← hw21]; have E20 : Ext w10 w19 := by rw [hw21]; exact Ext.draw _
      clear hw21
      have X22 := Ext.gr X13 E20
      refine RW_d _ rfl (fun v => by dsimp only [List.set]; try rfl) (fun u hu hF => ?_) (fun v23 => ?_)
      · clear hF
        refine doesG_un rfl ?_
        refine (does_move (u := (.slice p_a L_a.length q_a)) (ev rfl)).mono ?_; rintro _ _ ⟨rfl, rfl⟩
        exact ⟨rfl, Ext.refl _⟩
      refine RW_d _ rfl (fun v => by dsimp only [List.set]; try rfl) (fun u hu hF => ?_) (fun v24 => ?_)
      · clear hF
        refine doesG_un rfl ?_
        refine (does_move (u := (Iv (k : Int))) (ev rfl)).mono ?_; rintro _ _ ⟨rfl, rfl⟩
        exact ⟨rfl, Ext.refl _⟩
      refine RW_d _ rfl (fun v => by dsimp only [List.set]; try rfl) (fun u hu hF => ?_) (fun v25 => ?_)
      · have h17_ : v23 = (.slice p_a L_a.length q_a) := hF.1
        have h18_ : v24 = (Iv (k : Int)) := hF.2.1
        clear hF
        refine doesG_un rfl ?_
        obtain rfl := h17_
        obtain rfl := h18_
        refine (does_indexSl (R := RF) (i := (k : Int)) (xs := L_a) (e := el1) Try.underlying32 Try.sizeOf59 (ev rfl) (ev rfl) (Sl.ext (Sl.ext hv_a RF.mono (Ext.gr X13 E20)) RF.mono hu) (by omega) hel1).mono ?_; rintro v u' ⟨b, of, cs, hv, hc, hR, hu'⟩; subst hu'
        exact ⟨⟨b, of, cs, hv, hc, hR⟩, Ext.refl _⟩
      refine RW_d _ rfl (fun v => by dsimp only [List.set]; try rfl) (fun u hu hF => ?_) (fun v26 => ?_)
      · have h19_ : PtrR RF u v25 el1 := hF.1
        clear hF
        refine doesG_un rfl ?_
        obtain ⟨b19_, o19_, _, rfl, hc19_, ⟨r19_1, rfl, h19_2⟩⟩ := h19_
        refine (does_load (u := (Fl r19_1)) (ev rfl) Try.isAgg59 (Cells.at hc19_ 0 rfl)).mono ?_; rintro _ _ ⟨rfl, rfl⟩
        exact ⟨⟨r19_1, rfl, (by simp only [h19_2])⟩, Ext.refl _⟩
      refine RW_d _ rfl (fun v => by dsimp only [List.set]; try rfl) (fun u hu hF => ?_) (fun v27 => ?_)
      · have h20_ : ∃ r_1 : Nat, v26 = (Fl r_1) ∧ cf .f32 r_1 = el1 := hF.1
        clear hF
        refine doesG_un rfl ?_
        obtain ⟨r20_1, rfl, h20_2⟩ := h20_
        refine (does_widen Try.underlying59 Try.underlying71 (ev rfl)).mono ?_; rintro _ _ ⟨r, rfl, hr, hx⟩
        exact ⟨⟨r, rfl, (by simp only [hr, h20_2])⟩, hx⟩
      refine RW_d _ rfl (fun v => by dsimp only [List.set]; try rfl) (fun u hu hF => ?_) (fun v28 => ?_)
      · clear hF
        refine doesG_un rfl ?_
        refine (does_move (u := (.slice p_b L_b.length q_b)) (ev rfl)).mono ?_; rintro _ _ ⟨rfl, rfl⟩
        exact ⟨rfl, Ext.refl _⟩
      refine RW_d _ rfl (fun v => by dsimp only [List.set]; try rfl) (fun u hu hF => ?_) (fun v29 => ?_)
      · clear hF
        refine doesG_un rfl ?_
        refine (does_move (u := (Iv (k : Int))) (ev rfl)).mono ?_; rintro _ _ ⟨rfl, rfl⟩
        exact ⟨rfl, Ext.refl _⟩
      refine RW_d _ rfl (fun v => by dsimp only [List.set]; try rfl) (fun u hu hF => ?_) (fun v30 => ?_)
      · have h22_ : v28 = (.slice p_b L_b.length q_b) := hF.1
        have h23_ : v29 = (Iv (k : Int)) := hF.2.1
        clear hF
        refine doesG_un rfl ?_
        obtain rfl := h22_
        obtain rfl := h23_
        refine (does_indexSl (R := RF) (i := (k : Int)) (xs := L_b) (e := el2) Try.underlying32 Try.sizeOf59 (ev rfl) (ev rfl) (Sl.ext (Sl.ext hv_b RF.mono (Ext.gr X13 E20)) RF.mono hu) (by omega) hel2).mono ?_; rintro v u' ⟨b, of, cs, hv, hc, hR, hu'⟩; subst hu'
        exact ⟨⟨b, of, cs, hv, hc, hR⟩, Ext.refl _⟩
      refine RW_d _ rfl (fun v => by dsimp only [List.set]; try rfl) (fun u hu hF => ?_) (fun v31 => ?_)
      · have h24_ : PtrR RF u v30 el2 := hF.1
        clear hF
        refine doesG_un rfl ?_
        obtain ⟨b24_, o24_, _, rfl, hc24_, ⟨r24_1, rfl, h24_2⟩⟩ := h24_
        refine (does_load (u := (Fl r24_1)) (ev rfl) Try.isAgg59 (Cells.at hc24_ 0 rfl)).mono ?_; rintro _ _ ⟨rfl, rfl⟩
        exact ⟨⟨r24_1, rfl, (by simp only [h24_2])⟩, Ext.refl _⟩
      refine RW_d _ rfl (fun v => by dsimp only [List.set]; try rfl) (fun u hu hF => ?_) (fun v32 => ?_)
      · have h25_ : ∃ r_1 : Nat, v31 = (Fl r_1) ∧ cf .f32 r_1 = el2 := hF.1
        clear hF
        refine doesG_un rfl ?_
        obtain ⟨r25_1, rfl, h25_2⟩ := h25_
        refine (does_widen Try.underlying59 Try.underlying71 (ev rfl)).mono ?_; rintro _ _ ⟨r, rfl, hr, hx⟩
        exact ⟨⟨r, rfl, (by simp only [hr, h25_2])⟩, hx⟩
      refine RW_d _ rfl (fun v => by dsimp only [List.set]; try rfl) (fun u hu hF => ?_) (fun v33 => ?_)
      · have h21_ : ∃ r_1 : Nat, v27 = (Fd r_1) ∧ cf .f64 r_1 = fwid el1 := hF.1
        have h26_ : ∃ r_1 : Nat, v32 = (Fd r_1) ∧ cf .f64 r_1 = fwid el2 := hF.2.1
        clear hF
        refine doesG_un rfl ?_
        obtain ⟨r21_1, rfl, h21_2⟩ := h21_
        obtain ⟨r26_1, rfl, h26_2⟩ := h26_
        refine (does_call (args := #[(Fd r21_1), (Fd r26_1)]) cal42 (evs rfl) (c_laws_sameFloat r21_1 r26_1 _)).mono ?_; rintro v u' ⟨hx, hv⟩
        exact ⟨hv.trans (by simp only [hβ1, h21_2, h26_2]), hx⟩
      refine RW_d _ rfl (fun v => by dsimp only [List.set]; try rfl) (fun u hu hF => ?_) (fun v34 => ?_)
      · have h27_ : v33 = (Bo β1) := hF.1
        clear hF
        refine doesG_un rfl ?_
        obtain rfl := h27_
        refine (does_not (ev rfl)).mono ?_; rintro _ _ ⟨rfl, rfl⟩
        exact ⟨rfl, Ext.refl _⟩
      refine RW_fin ?_; intro w35 E36 hP37
      obtain ⟨⟨⟨⟨⟨⟨⟨⟨⟨⟨⟨⟨-, -⟩, -⟩, -⟩, -⟩, -⟩, -⟩, -⟩, -⟩, -⟩, -⟩, -⟩, q38⟩ := hP37
      have X39 := Ext.gr X22 E36
      have q38 : v34 = (Bo (!β1)) := q38
      obtain rfl := q38
      show wpList _ _ _ _ (fr [(.slice p_a L_a.length q_a), (.slice p_b L_b.length q_b), Ud, Ud, (u9 4), (Iv (k : Int)), (.slice p_a L_a.length q_a), (Iv (L_a.length : Int)), (.slice p_b L_b.length q_b), (Iv (L_b.length : Int)), (Bo (icmp .neq (L_a.length : Int) (L_b.length : Int))), (Iv (k : Int)), (.slice p_a L_a.length q_a), (Iv (L_a.length : Int)), (Bo (icmp .lss (k : Int) (L_a.length : Int))), (u9 15), (u9 16), v23, v24, v25, v26, v27, v28, v29, v30, v31, v32, v33, (Bo (!β1))]) _
      refine wpList_nil (hK18 _ _ ?_)
      refine wp_cond_split (t := !β1) (ev rfl) (fun c40 => ?_) (fun c40 => ?_)
      · rw [Bool.not_eq_true'] at c40
        have c40' := c40
        (try simp only [hβ1] at c40')
        (try simp only [icmp, Bool.and_eq_true, Bool.or_eq_true, Bool.and_eq_false_iff, Bool.or_eq_false_iff, Bool.not_eq_true', Bool.not_eq_false', decide_eq_true_eq, decide_eq_false_iff_not, beq_iff_eq, bne_iff_ne, beq_eq_false_iff_ne, bne_eq_false_iff_eq] at c40')
        refine wp_seq_k fun K41 hK41 => ?_
        refine wp_region_lit ?_
        refine q_is rfl rfl (does_assign (u := (Bo false)) (ev rfl)) (by dsimp only [List.set]; try rfl) ?_
        refine wpList_nil (hK41 _ _ ?_)
        refine wp_ret ?_
        dsimp only [Exit.then, Exit.inBlock]
        refine ret_val (v := (Bo false)) (res_T rfl (slot rfl)) X39 ?_
        try simp only [hβ1, hel1, hel2] at c4 c16 c40
        have x42 : (sameL L_a L_b) = false := by first | exact (sameL_len (by omega)) | exact (sameL_not (by omega) (by assumption) (by assumption) (by simp_all)) | exact (sameL_all (by omega) (by omega) hs)
        exact (by first | rfl | rw [x42])
      rw [Bool.not_eq_false'] at c40
      have c40' := c40
      (try simp only [hβ1] at c40')
      (try simp only [icmp, Bool.and_eq_true, Bool.or_eq_true, Bool.and_eq_false_iff, Bool.or_eq_false_iff, Bool.not_eq_true', Bool.not_eq_false', decide_eq_true_eq, decide_eq_false_iff_not, beq_iff_eq, bne_iff_ne, beq_eq_false_iff_ne, bne_eq_false_iff_eq] at c40')
      refine wp_skip (hK17 _ _ ?_)
      refine wp_region_lit ?_
      refine q_is rfl rfl (does_move (u := (Iv (k : Int))) (ev rfl)) (by dsimp only [List.set]; try rfl) ?_
      refine q_is rfl rfl (does_iarith (p := (k : Int)) (q := 1) (r := (k : Int) + 1) (ev rfl) (ev rfl) (.inl ⟨rfl, (in_i64 (by omega) (by omega)).symm⟩)) (by dsimp only [List.set]; try rfl) ?_
      refine q_is rfl rfl (does_assign (u := (Iv ((k : Int) + 1))) (ev rfl)) (by dsimp only [List.set]; try rfl) ?_
      refine wpList_nil ?_
      refine ⟨k + 1, ⟨fun t => (([(.slice p_a L_a.length q_a), (.slice p_b L_b.length q_b), Ud, Ud, (u9 4), (Iv ((k : Int) + 1)), (.slice p_a L_a.length q_a), (Iv (L_a.length : Int)), (.slice p_b L_b.length q_b), (Iv (L_b.length : Int)), (Bo (icmp .neq (L_a.length : Int) (L_b.length : Int))), (Iv (k : Int)), (.slice p_a L_a.length q_a), (Iv (L_a.length : Int)), (Bo (icmp .lss (k : Int) (L_a.length : Int))), (Iv (k : Int)), (Iv ((k : Int) + 1)), v23, v24, v25, v26, v27, v28, v29, v30, v31, v32, v33, (Bo (!β1))] : List Value)[t]?).getD undef, ?_, (Ext.gr (Ext.gr E11 E20) E36), ?_⟩, ?_⟩
      · first | rfl | (simp only [Nat.cast_add, Nat.cast_one, Int.natCast_add, Int.natCast_one]; rfl)
      · exact ⟨by omega, SameTo.step hs (by assumption) (by assumption) (by simp_all)⟩
      · omega
    have c16' := c16
    (try simp only [icmp, Bool.and_eq_true, Bool.or_eq_true, Bool.and_eq_false_iff, Bool.or_eq_false_iff, Bool.not_eq_true', Bool.not_eq_false', decide_eq_true_eq, decide_eq_false_iff_not, beq_iff_eq, bne_iff_ne, beq_eq_false_iff_ne, bne_eq_false_iff_eq] at c16')
    refine wp_exit ?_
    refine hK7 _ _ ?_
    refine wp_seq_k fun K43 hK43 => ?_
    refine wp_region_lit ?_
    refine q_is rfl rfl (does_assign (u := (Bo true)) (ev rfl)) (by dsimp only [List.set]; try rfl) ?_
    refine wpList_nil (hK43 _ _ ?_)
    refine wp_ret ?_
    refine ret_val (v := (Bo true)) (res_T rfl (slot rfl)) X13 ?_
    have x44 : (sameL L_a L_b) = true := by first | exact (sameL_len (by omega)) | exact (sameL_not (by omega) (by assumption) (by assumption) (by simp_all)) | exact (sameL_all (by omega) (by omega) hs)
    exact (by first | rfl | rw [x44])

/- laws.eqNode -/
theorem c_laws_eqNode (a : List Value) (A_a : NodeT) (b : List Value) (A_b : NodeT) (w : World) (hv_a : RNodeT w A_a a) (hv_b : RNodeT w A_b b) : Gives Try.prog 14 #[(.agg a.toArray), (.agg b.toArray)] w (fun v w' => v = (Bo (sameNd A_a A_b))) := by
  obtain ⟨y1, rfl, h2⟩ := hv_a
  obtain ⟨y3, rfl, h4⟩ := hv_b
  have hs7 := h2; have hs7l := Sl.len h2; obtain ⟨p5, q6, rfl⟩ := Sl.shape h2
  have hs10 := h4; have hs10l := Sl.len h4; obtain ⟨p8, q9, rfl⟩ := Sl.shape h4
  refine enter [(.agg #[(Iv A_a.kind), (Iv A_a.a), (Iv A_a.b), (.slice p5 A_a.nums.length q6)]), (.agg #[(Iv A_b.kind), (Iv A_b.a), (Iv A_b.b), (.slice p8 A_b.nums.length q9)]), Ud, Ud, Ud, Ud, Ud, Ud, Ud, Ud, Ud, Ud, Ud, Ud, Ud, Ud, Ud, Ud, Ud, Ud, Ud, Ud, Ud, Ud, Ud, Ud] Try.func14 rfl Try.ntmps14 rfl ?_
  refine wp_seq_k fun K11 hK11 => ?_
  refine wp_region_lit ?_
  refine seqd rfl rfl (does_box (u := (.agg #[(Iv A_a.kind), (Iv A_a.a), (Iv A_a.b), (.slice p5 A_a.nums.length q6)])) (ev rfl)) ?_; rintro _ w16 ⟨b12, rfl, hb13, hB14, E15⟩
  have g17 : w.heap.size ≤ b12 := Nat.le_trans (Below.size (Ext.refl w)) hb13
  change Blk _ _ [(Iv A_a.kind), (Iv A_a.a), (Iv A_a.b), (.slice p5 A_a.nums.length q6)] at hB14
  have X18 := Ext.gr (Ext.refl w) E15
  show wpList _ _ _ _ (fr [(.agg #[(Iv A_a.kind), (Iv A_a.a), (Iv A_a.b), (.slice p5 A_a.nums.length q6)]), (.agg #[(Iv A_b.kind), (Iv A_b.a), (Iv A_b.b), (.slice p8 A_b.nums.length q9)]), (Pt b12 0), Ud, Ud, Ud, Ud, Ud, Ud, Ud, Ud, Ud, Ud, Ud, Ud, Ud, Ud, Ud, Ud, Ud, Ud, Ud, Ud, Ud, Ud, Ud]) _
  refine seqd rfl rfl (does_box (u := (.agg #[(Iv A_b.kind), (Iv A_b.a), (Iv A_b.b), (.slice p8 A_b.nums.length q9)])) (ev rfl)) ?_; rintro _ w23 ⟨b19, rfl, hb20, hB21, E22⟩
  have n24 : b12 < b19 := Nat.lt_of_lt_of_le (Blk.lt hB14) hb20
  have g25 : w.heap.size ≤ b19 := Nat.le_trans (Below.size X18) hb20
  change Blk _ _ [(Iv A_b.kind), (Iv A_b.a), (Iv A_b.b), (.slice p8 A_b.nums.length q9)] at hB21
  have X26 := Ext.gr X18 E22
  show wpList _ _ _ _ (fr [(.agg #[(Iv A_a.kind), (Iv A_a.a), (Iv A_a.b), (.slice p5 A_a.nums.length q6)]), (.agg #[(Iv A_b.kind), (Iv A_b.a), (Iv A_b.b), (.slice p8 A_b.nums.length q9)]), (Pt b12 0), (Pt b19 0), Ud, Ud, Ud, Ud, Ud, Ud, Ud, Ud, Ud, Ud, Ud, Ud, Ud, Ud, Ud, Ud, Ud, Ud, Ud, Ud, Ud, Ud]) _
  refine q_is rfl rfl (does_assign (u := (Bo false)) (ev rfl)) (by dsimp only [List.set]; try rfl) ?_
  refine wpList_nil (hK11 _ _ ?_)
  refine wp_seq_k fun K27 hK27 => ?_
  refine wp_seq_k fun K28 hK28 => ?_
  refine wp_region_lit ?_
  refine q_is rfl rfl (does_fieldAddr (ev rfl) fa37_0) (by dsimp only [List.set]; try rfl) ?_
  refine q_is rfl rfl (does_load (u := (Iv A_a.kind)) (ev rfl) Try.isAgg2 (Cells.at (Blk.cells (hB14.ext E22)) 0 rfl)) (by dsimp only [List.set]; try rfl) ?_
  refine q_is rfl rfl (does_fieldAddr (ev rfl) fa37_0) (by dsimp only [List.set]; try rfl) ?_
  refine q_is rfl rfl (does_load (u := (Iv A_b.kind)) (ev rfl) Try.isAgg2 (Cells.at (Blk.cells hB21) 0 rfl)) (by dsimp only [List.set]; try rfl) ?_
  refine q_is rfl rfl (does_icmp (p := A_a.kind) (q := A_b.kind) (.inr (.inl rfl)) (ev rfl) (ev rfl)) (by dsimp only [List.set]; try rfl) ?_
  refine wpList_nil (hK28 _ _ ?_)
  refine wp_cond_split (t := icmp .neq A_a.kind A_b.kind) (ev rfl) (fun c29 => ?_) (fun c29 => ?_)
  · have c29' := c29
    (try simp only [icmp, Bool.and_eq_true, Bool.or_eq_true, Bool.and_eq_false_iff, Bool.or_eq_false_iff, Bool.not_eq_true', Bool.not_eq_false', decide_eq_true_eq, decide_eq_false_iff_not, beq_iff_eq, bne_iff_ne, beq_eq_false_iff_ne, bne_eq_false_iff_eq] at c29')
    refine wp_seq_k fun K30 hK30 => ?_
    refine wp_region_lit ?_
    refine q_is rfl rfl (does_assign (u := (Bo false)) (ev rfl)) (by dsimp only [List.set]; try rfl) ?_
    refine wpList_nil (hK30 _ _ ?_)
    refine wp_ret ?_
    dsimp only [Exit.then, Exit.inBlock]
    refine ret_val (v := (Bo false)) (res_T rfl (slot rfl)) X26 ?_
    have x31 : (sameNd A_a A_b) = false := by first | with_reducible rfl | (simp only [sameNd, icmp, c29]; done) | (simp [sameNd, icmp, c29]; done) | (revert c29; simp +contextual [sameNd, icmp]; done) | (rcases c29' with hh | hh <;> simp only [hh, sameNd, icmp, c29]; done) | (rcases c29' with hh | hh <;> simp_all [sameNd, icmp]; done) | (rcases c29' with hh | hh | hh <;> simp_all [sameNd, icmp]; done) | (rcases c29' with hh | hh | hh | hh <;> simp_all [sameNd, icmp]; done) | (simp_all [sameNd, icmp]; done) | rfl
    exact (by first | rfl | rw [x31])
  have c29' := c29
  (try simp only [icmp, Bool.and_eq_true, Bool.or_eq_true, Bool.and_eq_false_iff, Bool.or_eq_false_iff, Bool.not_eq_true', Bool.not_eq_false', decide_eq_true_eq, decide_eq_false_iff_not, beq_iff_eq, bne_iff_ne, beq_eq_false_iff_ne, bne_eq_false_iff_eq] at c29')
  refine wp_skip (hK27 _ _ ?_)
  refine wp_seq_k fun K32 hK32 => ?_
  refine wp_seq_k fun K33 hK33 => ?_
  refine wp_region_lit ?_
  refine q_is rfl rfl (does_fieldAddr (ev rfl) fa37_1) (by dsimp only [List.set]; try rfl) ?_
  refine q_is rfl rfl (does_load (u := (Iv A_a.a)) (ev rfl) Try.isAgg2 (Cells.at (Blk.cells (hB14.ext E22)) 1 rfl)) (by dsimp only [List.set]; try rfl) ?_
  refine q_is rfl rfl (does_fieldAddr (ev rfl) fa37_1) (by dsimp only [List.set]; try rfl) ?_
  refine q_is rfl rfl (does_load (u := (Iv A_b.a)) (ev rfl) Try.isAgg2 (Cells.at (Blk.cells hB21) 1 rfl)) (by dsimp only [List.set]; try rfl) ?_
  refine q_is rfl rfl (does_icmp (p := A_a.a) (q := A_b.a) (.inr (.inl rfl)) (ev rfl) (ev rfl)) (by dsimp only [List.set]; try rfl) ?_
  refine wpList_nil (hK33 _ _ ?_)
  refine wp_cond_split (t := icmp .neq A_a.a A_b.a) (ev rfl) (fun c34 => ?_) (fun c34 => ?_)
  · have c34' := c34
    (try simp only [icmp, Bool.and_eq_true, Bool.or_eq_true, Bool.and_eq_false_iff, Bool.or_eq_false_iff, Bool.not_eq_true', Bool.not_eq_false', decide_eq_true_eq, decide_eq_false_iff_not, beq_iff_eq, bne_iff_ne, beq_eq_false_iff_ne, bne_eq_false_iff_eq] at c34')
    refine wp_seq_k fun K35 hK35 => ?_
    refine wp_region_lit ?_
    refine q_is rfl rfl (does_assign (u := (Bo false)) (ev rfl)) (by dsimp only [List.set]; try rfl) ?_
    refine wpList_nil (hK35 _ _ ?_)
    refine wp_ret ?_
    dsimp only [Exit.then, Exit.inBlock]
    refine ret_val (v := (Bo false)) (res_T rfl (slot rfl)) X26 ?_
    have x36 : (sameNd A_a A_b) = false := by first | with_reducible rfl | (simp only [sameNd, icmp, c29, c34]; done) | (simp [sameNd, icmp, c29, c34]; done) | (revert c29 c34; simp +contextual [sameNd, icmp]; done) | (rcases c29' with hh | hh <;> simp only [hh, sameNd, icmp, c29, c34]; done) | (rcases c34' with hh | hh <;> simp only [hh, sameNd, icmp, c29, c34]; done) | (rcases c34' with hh | hh <;> simp_all [sameNd, icmp]; done) | (rcases c34' with hh | hh | hh <;> simp_all [sameNd, icmp]; done) | (rcases c34' with hh | hh | hh | hh <;> simp_all [sameNd, icmp]; done) | (simp_all [sameNd, icmp]; done) | rfl
    exact (by first | rfl | rw [x36])
  have c34' := c34
  (try simp only [icmp, Bool.and_eq_true, Bool.or_eq_true, Bool.and_eq_false_iff, Bool.or_eq_false_iff, Bool.not_eq_true', Bool.not_eq_false', decide_eq_true_eq, decide_eq_false_iff_not, beq_iff_eq, bne_iff_ne, beq_eq_false_iff_ne, bne_eq_false_iff_eq] at c34')
  refine wp_skip (hK32 _ _ ?_)
  refine wp_seq_k fun K37 hK37 => ?_
  refine wp_seq_k fun K38 hK38 => ?_
  refine wp_region_lit ?_
  refine q_is rfl rfl (does_fieldAddr (ev rfl) fa37_2) (by dsimp only [List.set]; try rfl) ?_
  refine q_is rfl rfl (does_load (u := (Iv A_a.b)) (ev rfl) Try.isAgg2 (Cells.at (Blk.cells (hB14.ext E22)) 2 rfl)) (by dsimp only [List.set]; try rfl) ?_
  refine q_is rfl rfl (does_fieldAddr (ev rfl) fa37_2) (by dsimp only [List.set]; try rfl) ?_
  refine q_is rfl rfl (does_load (u := (Iv A_b.b)) (ev rfl) Try.isAgg2 (Cells.at (Blk.cells hB21) 2 rfl)) (by dsimp only [List.set]; try rfl) ?_
  refine q_is rfl rfl (does_icmp (p := A_a.b) (q := A_b.b) (.inr (.inl rfl)) (ev rfl) (ev rfl)) (by dsimp only [List.set]; try rfl) ?_
  refine wpList_nil (hK38 _ _ ?_)
  refine wp_cond_split (t := icmp .neq A_a.b A_b.b) (ev rfl) (fun c39 => ?_) (fun c39 => ?_)
  · have c39' := c39
    (try simp only [icmp, Bool.and_eq_true, Bool.or_eq_true, Bool.and_eq_false_iff, Bool.or_eq_false_iff, Bool.not_eq_true', Bool.not_eq_false', decide_eq_true_eq, decide_eq_false_iff_not, beq_iff_eq, bne_iff_ne, beq_eq_false_iff_ne, bne_eq_false_iff_eq] at c39')
    refine wp_seq_k fun K40 hK40 => ?_
    refine wp_region_lit ?_
    refine q_is rfl rfl (does_assign (u := (Bo false)) (ev rfl)) (by dsimp only [List.set]; try rfl) ?_
    refine wpList_nil (hK40 _ _ ?_)
    refine wp_ret ?_
    dsimp only [Exit.then, Exit.inBlock]
    refine ret_val (v := (Bo false)) (res_T rfl (slot rfl)) X26 ?_
    have x41 : (sameNd A_a A_b) = false := by first | with_reducible rfl | (simp only [sameNd, icmp, c29, c34, c39]; done) | (simp [sameNd, icmp, c29, c34, c39]; done) | (revert c29 c34 c39; simp +contextual [sameNd, icmp]; done) | (rcases c29' with hh | hh <;> simp only [hh, sameNd, icmp, c29, c34, c39]; done) | (rcases c34' with hh | hh <;> simp only [hh, sameNd, icmp, c29, c34, c39]; done) | (rcases c39' with hh | hh <;> simp only [hh, sameNd, icmp, c29, c34, c39]; done) | (rcases c39' with hh | hh <;> simp_all [sameNd, icmp]; done) | (rcases c39' with hh | hh | hh <;> simp_all [sameNd, icmp]; done) | (rcases c39' with hh | hh | hh | hh <;> simp_all [sameNd, icmp]; done) | (simp_all [sameNd, icmp]; done) | rfl
    exact (by first | rfl | rw [x41])
  have c39' := c39
  (try simp only [icmp, Bool.and_eq_true, Bool.or_eq_true, Bool.and_eq_false_iff, Bool.or_eq_false_iff, Bool.not_eq_true', Bool.not_eq_false', decide_eq_true_eq, decide_eq_false_iff_not, beq_iff_eq, bne_iff_ne, beq_eq_false_iff_ne, bne_eq_false_iff_eq] at c39')
  refine wp_skip (hK37 _ _ ?_)
  refine wp_seq_k fun K42 hK42 => ?_
  refine wp_seq_k fun K43 hK43 => ?_
  refine wp_region_lit ?_
  refine q_is rfl rfl (does_fieldAddr (ev rfl) fa37_3) (by dsimp only [List.set]; try rfl) ?_
  refine q_is rfl rfl (does_load (u := (.slice p5 A_a.nums.length q6)) (ev rfl) Try.isAgg32 (Cells.at (Blk.cells (hB14.ext E22)) 3 rfl)) (by dsimp only [List.set]; try rfl) ?_
  refine q_is rfl rfl (does_fieldAddr (ev rfl) fa37_3) (by dsimp only [List.set]; try rfl) ?_
  refine q_is rfl rfl (does_load (u := (.slice p8 A_b.nums.length q9)) (ev rfl) Try.isAgg32 (Cells.at (Blk.cells hB21) 3 rfl)) (by dsimp only [List.set]; try rfl) ?_
  refine seqd rfl rfl (does_call (args := #[(.slice p5 A_a.nums.length q6), (.slice p8 A_b.nums.length q9)]) cal27 (evs rfl) (c_laws_eqFloat32S (.slice p5 A_a.nums.length q6) A_a.nums (.slice p8 A_b.nums.length q9) A_b.nums _ (Sl.ext hs7 RF.mono X26) (Sl.ext hs10 RF.mono X26))) ?_; rintro _ w45 ⟨E44, rfl⟩
  have X46 := Ext.gr X26 E44
  show wpList _ _ _ _ (fr [(.agg #[(Iv A_a.kind), (Iv A_a.a), (Iv A_a.b), (.slice p5 A_a.nums.length q6)]), (.agg #[(Iv A_b.kind), (Iv A_b.a), (Iv A_b.b), (.slice p8 A_b.nums.length q9)]), (Pt b12 0), (Pt b19 0), (Bo false), (Pt b12 0), (Iv A_a.kind), (Pt b19 0), (Iv A_b.kind), (Bo (icmp .neq A_a.kind A_b.kind)), (Pt b12 1), (Iv A_a.a), (Pt b19 1), (Iv A_b.a), (Bo (icmp .neq A_a.a A_b.a)), (Pt b12 2), (Iv A_a.b), (Pt b19 2), (Iv A_b.b), (Bo (icmp .neq A_a.b A_b.b)), (Pt b12 3), (.slice p5 A_a.nums.length q6), (Pt b19 3), (.slice p8 A_b.nums.length q9), (Bo (sameL A_a.nums A_b.nums)), Ud]) _
  refine q_is rfl rfl (does_not (ev rfl)) (by dsimp only [List.set]; try rfl) ?_
  refine wpList_nil (hK43 _ _ ?_)
  refine wp_cond_split (t := !(sameL A_a.nums A_b.nums)) (ev rfl) (fun c47 => ?_) (fun c47 => ?_)
  · rw [Bool.not_eq_true'] at c47
    have c47' := c47
    refine wp_seq_k fun K48 hK48 => ?_
    refine wp_region_lit ?_
    refine q_is rfl rfl (does_assign (u := (Bo false)) (ev rfl)) (by dsimp only [List.set]; try rfl) ?_
    refine wpList_nil (hK48 _ _ ?_)
    refine wp_ret ?_
    dsimp only [Exit.then, Exit.inBlock]
    refine ret_val (v := (Bo false)) (res_T rfl (slot rfl)) X46 ?_
    have x49 : (sameNd A_a A_b) = false := by first | with_reducible rfl | (simp only [sameNd, icmp, c29, c34, c39, c47]; done) | (simp [sameNd, icmp, c29, c34, c39, c47]; done) | (revert c29 c34 c39 c47; simp +contextual [sameNd, icmp]; done) | (rcases c29' with hh | hh <;> simp only [hh, sameNd, icmp, c29, c34, c39, c47]; done) | (rcases c34' with hh | hh <;> simp only [hh, sameNd, icmp, c29, c34, c39, c47]; done) | (rcases c39' with hh | hh <;> simp only [hh, sameNd, icmp, c29, c34, c39, c47]; done) | (rcases c47' with hh | hh <;> simp only [hh, sameNd, icmp, c29, c34, c39, c47]; done) | (rcases c47' with hh | hh <;> simp_all [sameNd, icmp]; done) | (rcases c47' with hh | hh | hh <;> simp_all [sameNd, icmp]; done) | (rcases c47' with hh | hh | hh | hh <;> simp_all [sameNd, icmp]; done) | (simp_all [sameNd, icmp]; done) | rfl
    exact (by first | rfl | rw [x49])
  rw [Bool.not_eq_false'] at c47
  have c47' := c47
  refine wp_skip (hK42 _ _ ?_)
  refine wp_seq_k fun K50 hK50 => ?_
  refine wp_region_lit ?_
  refine q_is rfl rfl (does_assign (u := (Bo true)) (ev rfl)) (by dsimp only [List.set]; try rfl) ?_
  refine wpList_nil (hK50 _ _ ?_)
  refine wp_ret ?_
  refine ret_val (v := (Bo true)) (res_T rfl (slot rfl)) X46 ?_
  have x51 : (sameNd A_a A_b) = true := by first | with_reducible rfl | (simp only [sameNd, icmp, c29, c34, c39, c47]; done) | (simp [sameNd, icmp, c29, c34, c39, c47]; done) | (revert c29 c34 c39 c47; simp +contextual [sameNd, icmp]; done) | (rcases c29' with hh | hh <;> simp only [hh, sameNd, icmp, c29, c34, c39, c47]; done) | (rcases c34' with hh | hh <;> simp only [hh, sameNd, icmp, c29, c34, c39, c47]; done) | (rcases c39' with hh | hh <;> simp only [hh, sameNd, icmp, c29, c34, c39, c47]; done) | (rcases c47' with hh | hh <;> simp only [hh, sameNd, icmp, c29, c34, c39, c47]; done) | (rcases c47' with hh | hh <;> simp_all [sameNd, icmp]; done) | (rcases c47' with hh | hh | hh <;> simp_all [sameNd, icmp]; done) | (rcases c47' with hh | hh | hh | hh <;> simp_all [sameNd, icmp]; done) | (simp_all [sameNd, icmp]; done) | rfl
  exact (by first | rfl | rw [x51])

/- laws.eqStep -/
theorem c_laws_eqStep (a : List Value) (A_a : StepT) (b : List Value) (A_b : StepT) (w : World) (hv_a : RStepT w A_a a) (hv_b : RStepT w A_b b) : Gives Try.prog 32 #[(.agg a.toArray), (.agg b.toArray)] w (fun v w' => v = (Bo (sameSt A_a A_b))) := by
  obtain ⟨y1, rfl, h2⟩ := hv_a
  obtain ⟨y3, rfl, h4⟩ := hv_b
  have hs7 := h2; have hs7l := Sl.len h2; obtain ⟨p5, q6, rfl⟩ := Sl.shape h2
  have hs10 := h4; have hs10l := Sl.len h4; obtain ⟨p8, q9, rfl⟩ := Sl.shape h4
  refine enter [(.agg #[(Iv A_a.kind), (Iv A_a.to), (Iv A_a.a), (Iv A_a.b), (Iv A_a.node.kind), (Iv A_a.node.a), (Iv A_a.node.b), (.slice p5 A_a.node.nums.length q6)]), (.agg #[(Iv A_b.kind), (Iv A_b.to), (Iv A_b.a), (Iv A_b.b), (Iv A_b.node.kind), (Iv A_b.node.a), (Iv A_b.node.b), (.slice p8 A_b.node.nums.length q9)]), Ud, Ud, Ud, Ud, Ud, Ud, Ud, Ud, Ud, Ud, Ud, Ud, Ud, Ud, Ud, Ud, Ud, Ud, Ud, Ud, Ud, Ud, Ud, Ud, Ud, Ud, Ud, Ud, Ud] Try.func32 rfl Try.ntmps32 rfl ?_
  refine wp_seq_k fun K11 hK11 => ?_
  refine wp_region_lit ?_
  refine seqd rfl rfl (does_box (u := (.agg #[(Iv A_a.kind), (Iv A_a.to), (Iv A_a.a), (Iv A_a.b), (Iv A_a.node.kind), (Iv A_a.node.a), (Iv A_a.node.b), (.slice p5 A_a.node.nums.length q6)])) (ev rfl)) ?_; rintro _ w16 ⟨b12, rfl, hb13, hB14, E15⟩
  have g17 : w.heap.size ≤ b12 := Nat.le_trans (Below.size (Ext.refl w)) hb13
  change Blk _ _ [(Iv A_a.kind), (Iv A_a.to), (Iv A_a.a), (Iv A_a.b), (Iv A_a.node.kind), (Iv A_a.node.a), (Iv A_a.node.b), (.slice p5 A_a.node.nums.length q6)] at hB14
  have X18 := Ext.gr (Ext.refl w) E15
  show wpList _ _ _ _ (fr [(.agg #[(Iv A_a.kind), (Iv A_a.to), (Iv A_a.a), (Iv A_a.b), (Iv A_a.node.kind), (Iv A_a.node.a), (Iv A_a.node.b), (.slice p5 A_a.node.nums.length q6)]), (.agg #[(Iv A_b.kind), (Iv A_b.to), (Iv A_b.a), (Iv A_b.b), (Iv A_b.node.kind), (Iv A_b.node.a), (Iv A_b.node.b), (.slice p8 A_b.node.nums.length q9)]), (Pt b12 0), Ud, Ud, Ud, Ud, Ud, Ud, Ud, Ud, Ud, Ud, Ud, Ud, Ud, Ud, Ud, Ud, Ud, Ud, Ud, Ud, Ud, Ud, Ud, Ud, Ud, Ud, Ud, Ud]) _
  refine seqd rfl rfl (does_box (u := (.agg #[(Iv A_b.kind), (Iv A_b.to), (Iv A_b.a), (Iv A_b.b), (Iv A_b.node.kind), (Iv A_b.node.a), (Iv A_b.node.b), (.slice p8 A_b.node.nums.length q9)])) (ev rfl)) ?_; rintro _ w23 ⟨b19, rfl, hb20, hB21, E22⟩
  have n24 : b12 < b19 := Nat.lt_of_lt_of_le (Blk.lt hB14) hb20
  have g25 : w.heap.size ≤ b19 := Nat.le_trans (Below.size X18) hb20
  change Blk _ _ [(Iv A_b.kind), (Iv A_b.to), (Iv A_b.a), (Iv A_b.b), (Iv A_b.node.kind), (Iv A_b.node.a), (Iv A_b.node.b), (.slice p8 A_b.node.nums.length q9)] at hB21
  have X26 := Ext.gr X18 E22
  show wpList _ _ _ _ (fr [(.agg #[(Iv A_a.kind), (Iv A_a.to), (Iv A_a.a), (Iv A_a.b), (Iv A_a.node.kind), (Iv A_a.node.a), (Iv A_a.node.b), (.slice p5 A_a.node.nums.length q6)]), (.agg #[(Iv A_b.kind), (Iv A_b.to), (Iv A_b.a), (Iv A_b.b), (Iv A_b.node.kind), (Iv A_b.node.a), (Iv A_b.node.b), (.slice p8 A_b.node.nums.length q9)]), (Pt b12 0), (Pt b19 0), Ud, Ud, Ud, Ud, Ud, Ud, Ud, Ud, Ud, Ud, Ud, Ud, Ud, Ud, Ud, Ud, Ud, Ud, Ud, Ud, Ud, Ud, Ud, Ud, Ud, Ud, Ud]) _
  refine q_is rfl rfl (does_assign (u := (Bo false)) (ev rfl)) (by dsimp only [List.set]; try rfl) ?_
  refine wpList_nil (hK11 _ _ ?_)
  refine wp_seq_k fun K27 hK27 => ?_
  refine wp_seq_k fun K28 hK28 => ?_
  refine wp_region_lit ?_
  refine q_is rfl rfl (does_fieldAddr (ev rfl) fa43_0) (by dsimp only [List.set]; try rfl) ?_
  refine q_is rfl rfl (does_load (u := (Iv A_a.kind)) (ev rfl) Try.isAgg2 (Cells.at (Blk.cells (hB14.ext E22)) 0 rfl)) (by dsimp only [List.set]; try rfl) ?_
  refine q_is rfl rfl (does_fieldAddr (ev rfl) fa43_0) (by dsimp only [List.set]; try rfl) ?_
  refine q_is rfl rfl (does_load (u := (Iv A_b.kind)) (ev rfl) Try.isAgg2 (Cells.at (Blk.cells hB21) 0 rfl)) (by dsimp only [List.set]; try rfl) ?_
  refine q_is rfl rfl (does_icmp (p := A_a.kind) (q := A_b.kind) (.inr (.inl rfl)) (ev rfl) (ev rfl)) (by dsimp only [List.set]; try rfl) ?_
  refine wpList_nil (hK28 _ _ ?_)
  refine wp_cond_split (t := icmp .neq A_a.kind A_b.kind) (ev rfl) (fun c29 => ?_) (fun c29 => ?_)
  · have c29' := c29
    (try simp only [icmp, Bool.and_eq_true, Bool.or_eq_true, Bool.and_eq_false_iff, Bool.or_eq_false_iff, Bool.not_eq_true', Bool.not_eq_false', decide_eq_true_eq, decide_eq_false_iff_not, beq_iff_eq, bne_iff_ne, beq_eq_false_iff_ne, bne_eq_false_iff_eq] at c29')
    refine wp_seq_k fun K30 hK30 => ?_
    refine wp_region_lit ?_
    refine q_is rfl rfl (does_assign (u := (Bo false)) (ev rfl)) (by dsimp only [List.set]; try rfl) ?_
    refine wpList_nil (hK30 _ _ ?_)
    refine wp_ret ?_
    dsimp only [Exit.then, Exit.inBlock]
    refine ret_val (v := (Bo false)) (res_T rfl (slot rfl)) X26 ?_
    have x31 : (sameSt A_a A_b) = false := by first | with_reducible rfl | (simp only [sameSt, icmp, c29]; done) | (simp [sameSt, icmp, c29]; done) | (revert c29; simp +contextual [sameSt, icmp]; done) | (rcases c29' with hh | hh <;> simp only [hh, sameSt, icmp, c29]; done) | (rcases c29' with hh | hh <;> simp_all [sameSt, icmp]; done) | (rcases c29' with hh | hh | hh <;> simp_all [sameSt, icmp]; done) | (rcases c29' with hh | hh | hh | hh <;> simp_all [sameSt, icmp]; done) | (simp_all [sameSt, icmp]; done) | rfl
    exact (by first | rfl | rw [x31])
  have c29' := c29
  (try simp only [icmp, Bool.and_eq_true, Bool.or_eq_true, Bool.and_eq_false_iff, Bool.or_eq_false_iff, Bool.not_eq_true', Bool.not_eq_false', decide_eq_true_eq, decide_eq_false_iff_not, beq_iff_eq, bne_iff_ne, beq_eq_false_iff_ne, bne_eq_false_iff_eq] at c29')
  refine wp_skip (hK27 _ _ ?_)
  refine wp_seq_k fun K32 hK32 => ?_
  refine wp_seq_k fun K33 hK33 => ?_
  refine wp_region_lit ?_
  refine q_is rfl rfl (does_fieldAddr (ev rfl) fa43_1) (by dsimp only [List.set]; try rfl) ?_
  refine q_is rfl rfl (does_load (u := (Iv A_a.to)) (ev rfl) Try.isAgg2 (Cells.at (Blk.cells (hB14.ext E22)) 1 rfl)) (by dsimp only [List.set]; try rfl) ?_
  refine q_is rfl rfl (does_fieldAddr (ev rfl) fa43_1) (by dsimp only [List.set]; try rfl) ?_
  refine q_is rfl rfl (does_load (u := (Iv A_b.to)) (ev rfl) Try.isAgg2 (Cells.at (Blk.cells hB21) 1 rfl)) (by dsimp only [List.set]; try rfl) ?_
  refine q_is rfl rfl (does_icmp (p := A_a.to) (q := A_b.to) (.inr (.inl rfl)) (ev rfl) (ev rfl)) (by dsimp only [List.set]; try rfl) ?_
  refine wpList_nil (hK33 _ _ ?_)
  refine wp_cond_split (t := icmp .neq A_a.to A_b.to) (ev rfl) (fun c34 => ?_) (fun c34 => ?_)
  · have c34' := c34
    (try simp only [icmp, Bool.and_eq_true, Bool.or_eq_true, Bool.and_eq_false_iff, Bool.or_eq_false_iff, Bool.not_eq_true', Bool.not_eq_false', decide_eq_true_eq, decide_eq_false_iff_not, beq_iff_eq, bne_iff_ne, beq_eq_false_iff_ne, bne_eq_false_iff_eq] at c34')
    refine wp_seq_k fun K35 hK35 => ?_
    refine wp_region_lit ?_
    refine q_is rfl rfl (does_assign (u := (Bo false)) (ev rfl)) (by dsimp only [List.set]; try rfl) ?_
    refine wpList_nil (hK35 _ _ ?_)
    refine wp_ret ?_
    dsimp only [Exit.then, Exit.inBlock]
    refine ret_val (v := (Bo false)) (res_T rfl (slot rfl)) X26 ?_
    have x36 : (sameSt A_a A_b) = false := by first | with_reducible rfl | (simp only [sameSt, icmp, c29, c34]; done) | (simp [sameSt, icmp, c29, c34]; done) | (revert c29 c34; simp +contextual [sameSt, icmp]; done) | (rcases c29' with hh | hh <;> simp only [hh, sameSt, icmp, c29, c34]; done) | (rcases c34' with hh | hh <;> simp only [hh, sameSt, icmp, c29, c34]; done) | (rcases c34' with hh | hh <;> simp_all [sameSt, icmp]; done) | (rcases c34' with hh | hh | hh <;> simp_all [sameSt, icmp]; done) | (rcases c34' with hh | hh | hh | hh <;> simp_all [sameSt, icmp]; done) | (simp_all [sameSt, icmp]; done) | rfl
    exact (by first | rfl | rw [x36])
  have c34' := c34
  (try simp only [icmp, Bool.and_eq_true, Bool.or_eq_true, Bool.and_eq_false_iff, Bool.or_eq_false_iff, Bool.not_eq_true', Bool.not_eq_false', decide_eq_true_eq, decide_eq_false_iff_not, beq_iff_eq, bne_iff_ne, beq_eq_false_iff_ne, bne_eq_false_iff_eq] at c34')
  refine wp_skip (hK32 _ _ ?_)
  refine wp_seq_k fun K37 hK37 => ?_
  refine wp_seq_k fun K38 hK38 => ?_
  refine wp_region_lit ?_
  refine q_is rfl rfl (does_fieldAddr (ev rfl) fa43_2) (by dsimp only [List.set]; try rfl) ?_
  refine q_is rfl rfl (does_load (u := (Iv A_a.a)) (ev rfl) Try.isAgg2 (Cells.at (Blk.cells (hB14.ext E22)) 2 rfl)) (by dsimp only [List.set]; try rfl) ?_
  refine q_is rfl rfl (does_fieldAddr (ev rfl) fa43_2) (by dsimp only [List.set]; try rfl) ?_
  refine q_is rfl rfl (does_load (u := (Iv A_b.a)) (ev rfl) Try.isAgg2 (Cells.at (Blk.cells hB21) 2 rfl)) (by dsimp only [List.set]; try rfl) ?_
  refine q_is rfl rfl (does_icmp (p := A_a.a) (q := A_b.a) (.inr (.inl rfl)) (ev rfl) (ev rfl)) (by dsimp only [List.set]; try rfl) ?_
  refine wpList_nil (hK38 _ _ ?_)
  refine wp_cond_split (t := icmp .neq A_a.a A_b.a) (ev rfl) (fun c39 => ?_) (fun c39 => ?_)
  · have c39' := c39
    (try simp only [icmp, Bool.and_eq_true, Bool.or_eq_true, Bool.and_eq_false_iff, Bool.or_eq_false_iff, Bool.not_eq_true', Bool.not_eq_false', decide_eq_true_eq, decide_eq_false_iff_not, beq_iff_eq, bne_iff_ne, beq_eq_false_iff_ne, bne_eq_false_iff_eq] at c39')
    refine wp_seq_k fun K40 hK40 => ?_
    refine wp_region_lit ?_
    refine q_is rfl rfl (does_assign (u := (Bo false)) (ev rfl)) (by dsimp only [List.set]; try rfl) ?_
    refine wpList_nil (hK40 _ _ ?_)
    refine wp_ret ?_
    dsimp only [Exit.then, Exit.inBlock]
    refine ret_val (v := (Bo false)) (res_T rfl (slot rfl)) X26 ?_
    have x41 : (sameSt A_a A_b) = false := by first | with_reducible rfl | (simp only [sameSt, icmp, c29, c34, c39]; done) | (simp [sameSt, icmp, c29, c34, c39]; done) | (revert c29 c34 c39; simp +contextual [sameSt, icmp]; done) | (rcases c29' with hh | hh <;> simp only [hh, sameSt, icmp, c29, c34, c39]; done) | (rcases c34' with hh | hh <;> simp only [hh, sameSt, icmp, c29, c34, c39]; done) | (rcases c39' with hh | hh <;> simp only [hh, sameSt, icmp, c29, c34, c39]; done) | (rcases c39' with hh | hh <;> simp_all [sameSt, icmp]; done) | (rcases c39' with hh | hh | hh <;> simp_all [sameSt, icmp]; done) | (rcases c39' with hh | hh | hh | hh <;> simp_all [sameSt, icmp]; done) | (simp_all [sameSt, icmp]; done) | rfl
    exact (by first | rfl | rw [x41])
  have c39' := c39
  (try simp only [icmp, Bool.and_eq_true, Bool.or_eq_true, Bool.and_eq_false_iff, Bool.or_eq_false_iff, Bool.not_eq_true', Bool.not_eq_false', decide_eq_true_eq, decide_eq_false_iff_not, beq_iff_eq, bne_iff_ne, beq_eq_false_iff_ne, bne_eq_false_iff_eq] at c39')
  refine wp_skip (hK37 _ _ ?_)
  refine wp_seq_k fun K42 hK42 => ?_
  refine wp_seq_k fun K43 hK43 => ?_
  refine wp_region_lit ?_
  refine q_is rfl rfl (does_fieldAddr (ev rfl) fa43_3) (by dsimp only [List.set]; try rfl) ?_
  refine q_is rfl rfl (does_load (u := (Iv A_a.b)) (ev rfl) Try.isAgg2 (Cells.at (Blk.cells (hB14.ext E22)) 3 rfl)) (by dsimp only [List.set]; try rfl) ?_
  refine q_is rfl rfl (does_fieldAddr (ev rfl) fa43_3) (by dsimp only [List.set]; try rfl) ?_
  refine q_is rfl rfl (does_load (u := (Iv A_b.b)) (ev rfl) Try.isAgg2 (Cells.at (Blk.cells hB21) 3 rfl)) (by dsimp only [List.set]; try rfl) ?_
  refine q_is rfl rfl (does_icmp (p := A_a.b) (q := A_b.b) (.inr (.inl rfl)) (ev rfl) (ev rfl)) (by dsimp only [List.set]; try rfl) ?_
  refine wpList_nil (hK43 _ _ ?_)
  refine wp_cond_split (t := icmp .neq A_a.b A_b.b) (ev rfl) (fun c44 => ?_) (fun c44 => ?_)
  · have c44' := c44
    (try simp only [icmp, Bool.and_eq_true, Bool.or_eq_true, Bool.and_eq_false_iff, Bool.or_eq_false_iff, Bool.not_eq_true', Bool.not_eq_false', decide_eq_true_eq, decide_eq_false_iff_not, beq_iff_eq, bne_iff_ne, beq_eq_false_iff_ne, bne_eq_false_iff_eq] at c44')
    refine wp_seq_k fun K45 hK45 => ?_
    refine wp_region_lit ?_
    refine q_is rfl rfl (does_assign (u := (Bo false)) (ev rfl)) (by dsimp only [List.set]; try rfl) ?_
    refine wpList_nil (hK45 _ _ ?_)
    refine wp_ret ?_
    dsimp only [Exit.then, Exit.inBlock]
    refine ret_val (v := (Bo false)) (res_T rfl (slot rfl)) X26 ?_
    have x46 : (sameSt A_a A_b) = false := by first | with_reducible rfl | (simp only [sameSt, icmp, c29, c34, c39, c44]; done) | (simp [sameSt, icmp, c29, c34, c39, c44]; done) | (revert c29 c34 c39 c44; simp +contextual [sameSt, icmp]; done) | (rcases c29' with hh | hh <;> simp only [hh, sameSt, icmp, c29, c34, c39, c44]; done) | (rcases c34' with hh | hh <;> simp only [hh, sameSt, icmp, c29, c34, c39, c44]; done) | (rcases c39' with hh | hh <;> simp only [hh, sameSt, icmp, c29, c34, c39, c44]; done) | (rcases c44' with hh | hh <;> simp only [hh, sameSt, icmp, c29, c34, c39, c44]; done) | (rcases c44' with hh | hh <;> simp_all [sameSt, icmp]; done) | (rcases c44' with hh | hh | hh <;> simp_all [sameSt, icmp]; done) | (rcases c44' with hh | hh | hh | hh <;> simp_all [sameSt, icmp]; done) | (simp_all [sameSt, icmp]; done) | rfl
    exact (by first | rfl | rw [x46])
  have c44' := c44
  (try simp only [icmp, Bool.and_eq_true, Bool.or_eq_true, Bool.and_eq_false_iff, Bool.or_eq_false_iff, Bool.not_eq_true', Bool.not_eq_false', decide_eq_true_eq, decide_eq_false_iff_not, beq_iff_eq, bne_iff_ne, beq_eq_false_iff_ne, bne_eq_false_iff_eq] at c44')
  refine wp_skip (hK42 _ _ ?_)
  refine wp_seq_k fun K47 hK47 => ?_
  refine wp_seq_k fun K48 hK48 => ?_
  refine wp_region_lit ?_
  refine q_is rfl rfl (does_fieldAddr (ev rfl) fa43_4) (by dsimp only [List.set]; try rfl) ?_
  refine q_is rfl rfl (does_loadAgg (cs := [(Iv A_a.node.kind), (Iv A_a.node.a), (Iv A_a.node.b), (.slice p5 A_a.node.nums.length q6)]) (ev rfl) Try.isAgg37 Try.sizeOf37 (Cells.sub (Blk.cells (hB14.ext E22)) 4 4) rfl) (by dsimp only [List.set]; try rfl) ?_
  refine q_is rfl rfl (does_fieldAddr (ev rfl) fa43_4) (by dsimp only [List.set]; try rfl) ?_
  refine q_is rfl rfl (does_loadAgg (cs := [(Iv A_b.node.kind), (Iv A_b.node.a), (Iv A_b.node.b), (.slice p8 A_b.node.nums.length q9)]) (ev rfl) Try.isAgg37 Try.sizeOf37 (Cells.sub (Blk.cells hB21) 4 4) rfl) (by dsimp only [List.set]; try rfl) ?_
  refine seqd rfl rfl (does_call (args := #[(.agg #[(Iv A_a.node.kind), (Iv A_a.node.a), (Iv A_a.node.b), (.slice p5 A_a.node.nums.length q6)]), (.agg #[(Iv A_b.node.kind), (Iv A_b.node.a), (Iv A_b.node.b), (.slice p8 A_b.node.nums.length q9)])]) cal14 (evs rfl) (c_laws_eqNode [(Iv A_a.node.kind), (Iv A_a.node.a), (Iv A_a.node.b), (.slice p5 A_a.node.nums.length q6)] A_a.node [(Iv A_b.node.kind), (Iv A_b.node.a), (Iv A_b.node.b), (.slice p8 A_b.node.nums.length q9)] A_b.node _ ⟨(.slice p5 A_a.node.nums.length q6), rfl, (Sl.ext hs7 RF.mono X26)⟩ ⟨(.slice p8 A_b.node.nums.length q9), rfl, (Sl.ext hs10 RF.mono X26)⟩)) ?_; rintro _ w50 ⟨E49, rfl⟩
  have X51 := Ext.gr X26 E49
  show wpList _ _ _ _ (fr [(.agg #[(Iv A_a.kind), (Iv A_a.to), (Iv A_a.a), (Iv A_a.b), (Iv A_a.node.kind), (Iv A_a.node.a), (Iv A_a.node.b), (.slice p5 A_a.node.nums.length q6)]), (.agg #[(Iv A_b.kind), (Iv A_b.to), (Iv A_b.a), (Iv A_b.b), (Iv A_b.node.kind), (Iv A_b.node.a), (Iv A_b.node.b), (.slice p8 A_b.node.nums.length q9)]), (Pt b12 0), (Pt b19 0), (Bo false), (Pt b12 0), (Iv A_a.kind), (Pt b19 0), (Iv A_b.kind), (Bo (icmp .neq A_a.kind A_b.kind)), (Pt b12 1), (Iv A_a.to), (Pt b19 1), (Iv A_b.to), (Bo (icmp .neq A_a.to A_b.to)), (Pt b12 2), (Iv A_a.a), (Pt b19 2), (Iv A_b.a), (Bo (icmp .neq A_a.a A_b.a)), (Pt b12 3), (Iv A_a.b), (Pt b19 3), (Iv A_b.b), (Bo (icmp .neq A_a.b A_b.b)), (Pt b12 4), (.agg #[(Iv A_a.node.kind), (Iv A_a.node.a), (Iv A_a.node.b), (.slice p5 A_a.node.nums.length q6)]), (Pt b19 4), (.agg #[(Iv A_b.node.kind), (Iv A_b.node.a), (Iv A_b.node.b), (.slice p8 A_b.node.nums.length q9)]), (Bo (sameNd A_a.node A_b.node)), Ud]) _
  refine q_is rfl rfl (does_not (ev rfl)) (by dsimp only [List.set]; try rfl) ?_
  refine wpList_nil (hK48 _ _ ?_)
  refine wp_cond_split (t := !(sameNd A_a.node A_b.node)) (ev rfl) (fun c52 => ?_) (fun c52 => ?_)
  · rw [Bool.not_eq_true'] at c52
    have c52' := c52
    refine wp_seq_k fun K53 hK53 => ?_
    refine wp_region_lit ?_
    refine q_is rfl rfl (does_assign (u := (Bo false)) (ev rfl)) (by dsimp only [List.set]; try rfl) ?_
    refine wpList_nil (hK53 _ _ ?_)
    refine wp_ret ?_
    dsimp only [Exit.then, Exit.inBlock]
    refine ret_val (v := (Bo false)) (res_T rfl (slot rfl)) X51 ?_
    have x54 : (sameSt A_a A_b) = false := by first | with_reducible rfl | (simp only [sameSt, icmp, c29, c34, c39, c44, c52]; done) | (simp [sameSt, icmp, c29, c34, c39, c44, c52]; done) | (revert c29 c34 c39 c44 c52; simp +contextual [sameSt, icmp]; done) | (rcases c29' with hh | hh <;> simp only [hh, sameSt, icmp, c29, c34, c39, c44, c52]; done) | (rcases c34' with hh | hh <;> simp only [hh, sameSt, icmp, c29, c34, c39, c44, c52]; done) | (rcases c39' with hh | hh <;> simp only [hh, sameSt, icmp, c29, c34, c39, c44, c52]; done) | (rcases c44' with hh | hh <;> simp only [hh, sameSt, icmp, c29, c34, c39, c44, c52]; done) | (rcases c52' with hh | hh <;> simp only [hh, sameSt, icmp, c29, c34, c39, c44, c52]; done) | (rcases c52' with hh | hh <;> simp_all [sameSt, icmp]; done) | (rcases c52' with hh | hh | hh <;> simp_all [sameSt, icmp]; done) | (rcases c52' with hh | hh | hh | hh <;> simp_all [sameSt, icmp]; done) | (simp_all [sameSt, icmp]; done) | rfl
    exact (by first | rfl | rw [x54])
  rw [Bool.not_eq_false'] at c52
  have c52' := c52
  refine wp_skip (hK47 _ _ ?_)
  refine wp_seq_k fun K55 hK55 => ?_
  refine wp_region_lit ?_
  refine q_is rfl rfl (does_assign (u := (Bo true)) (ev rfl)) (by dsimp only [List.set]; try rfl) ?_
  refine wpList_nil (hK55 _ _ ?_)
  refine wp_ret ?_
  refine ret_val (v := (Bo true)) (res_T rfl (slot rfl)) X51 ?_
  have x56 : (sameSt A_a A_b) = true := by first | with_reducible rfl | (simp only [sameSt, icmp, c29, c34, c39, c44, c52]; done) | (simp [sameSt, icmp, c29, c34, c39, c44, c52]; done) | (revert c29 c34 c39 c44 c52; simp +contextual [sameSt, icmp]; done) | (rcases c29' with hh | hh <;> simp only [hh, sameSt, icmp, c29, c34, c39, c44, c52]; done) | (rcases c34' with hh | hh <;> simp only [hh, sameSt, icmp, c29, c34, c39, c44, c52]; done) | (rcases c39' with hh | hh <;> simp only [hh, sameSt, icmp, c29, c34, c39, c44, c52]; done) | (rcases c44' with hh | hh <;> simp only [hh, sameSt, icmp, c29, c34, c39, c44, c52]; done) | (rcases c52' with hh | hh <;> simp only [hh, sameSt, icmp, c29, c34, c39, c44, c52]; done) | (rcases c52' with hh | hh <;> simp_all [sameSt, icmp]; done) | (rcases c52' with hh | hh | hh <;> simp_all [sameSt, icmp]; done) | (rcases c52' with hh | hh | hh | hh <;> simp_all [sameSt, icmp]; done) | (simp_all [sameSt, icmp]; done) | rfl
  exact (by first | rfl | rw [x56])

/- laws.eqStepS -/
theorem c_laws_eqStepS (a : Value) (L_a : List StepT) (b : Value) (L_b : List StepT) (w : World) (hv_a : Sl RStepT 8 w a L_a) (hv_b : Sl RStepT 8 w b L_b) : Gives Try.prog 20 #[a, b] w (fun v w' => v = (Bo (sameX sameSt L_a L_b))) := by
  have hlen_a := Sl.len hv_a; obtain ⟨p_a, q_a, rfl⟩ := Sl.shape hv_a
  have hlen_b := Sl.len hv_b; obtain ⟨p_b, q_b, rfl⟩ := Sl.shape hv_b
  refine enter [(.slice p_a L_a.length q_a), (.slice p_b L_b.length q_b), Ud, Ud, Ud, Ud, Ud, Ud, Ud, Ud, Ud, Ud, Ud, Ud, Ud, Ud, Ud, Ud, Ud, Ud, Ud, Ud, Ud, Ud, Ud, Ud, Ud] Try.func20 rfl Try.ntmps20 rfl ?_
  refine wp_seq_k fun K1 hK1 => ?_
  refine wp_region_lit ?_
  refine q_is rfl rfl (does_assign (u := (Bo false)) (ev rfl)) (by dsimp only [List.set]; try rfl) ?_
  refine wpList_nil (hK1 _ _ ?_)
  refine wp_seq_k fun K2 hK2 => ?_
  refine wp_seq_k fun K3 hK3 => ?_
  refine wp_region_lit ?_
  refine q_is rfl rfl (does_move (u := (.slice p_a L_a.length q_a)) (ev rfl)) (by dsimp only [List.set]; try rfl) ?_
  refine q_is rfl rfl (does_len_slice Try.underlying27 (ev rfl)) (by dsimp only [List.set]; try rfl) ?_
  refine q_is rfl rfl (does_move (u := (.slice p_b L_b.length q_b)) (ev rfl)) (by dsimp only [List.set]; try rfl) ?_
  refine q_is rfl rfl (does_len_slice Try.underlying27 (ev rfl)) (by dsimp only [List.set]; try rfl) ?_
  refine q_is rfl rfl (does_icmp (p := (L_a.length : Int)) (q := (L_b.length : Int)) (.inr (.inl rfl)) (ev rfl) (ev rfl)) (by dsimp only [List.set]; try rfl) ?_
  refine wpList_nil (hK3 _ _ ?_)
  refine wp_cond_split (t := icmp .neq (L_a.length : Int) (L_b.length : Int)) (ev rfl) (fun c4 => ?_) (fun c4 => ?_)
  · have c4' := c4
    (try simp only [icmp, Bool.and_eq_true, Bool.or_eq_true, Bool.and_eq_false_iff, Bool.or_eq_false_iff, Bool.not_eq_true', Bool.not_eq_false', decide_eq_true_eq, decide_eq_false_iff_not, beq_iff_eq, bne_iff_ne, beq_eq_false_iff_ne, bne_eq_false_iff_eq] at c4')
    refine wp_seq_k fun K5 hK5 => ?_
    refine wp_region_lit ?_
    refine q_is rfl rfl (does_assign (u := (Bo false)) (ev rfl)) (by dsimp only [List.set]; try rfl) ?_
    refine wpList_nil (hK5 _ _ ?_)
    refine wp_ret ?_
    dsimp only [Exit.then, Exit.inBlock]
    refine ret_val (v := (Bo false)) (res_T rfl (slot rfl)) (Ext.refl w) ?_
    have x6 : (sameX sameSt L_a L_b) = false := by first | exact (sameX_len (by omega)) | exact (sameX_not (by omega) (by assumption) (by assumption) (by simp_all)) | exact (sameX_all (by omega) (by omega) hs)
    exact (by first | rfl | rw [x6])
  have c4' := c4
  (try simp only [icmp, Bool.and_eq_true, Bool.or_eq_true, Bool.and_eq_false_iff, Bool.or_eq_false_iff, Bool.not_eq_true', Bool.not_eq_false', decide_eq_true_eq, decide_eq_false_iff_not, beq_iff_eq, bne_iff_ne, beq_eq_false_iff_ne, bne_eq_false_iff_eq] at c4')
  refine wp_skip (hK2 _ _ ?_)
  refine wp_seq_k fun K7 hK7 => ?_
  refine wp_seq_k fun K8 hK8 => ?_
  refine wp_region_lit ?_
  refine q_is rfl rfl (does_assign (u := (Iv 0)) (ev rfl)) (by dsimp only [List.set]; try rfl) ?_
  refine wpList_nil (hK8 _ _ ?_)
  refine wp_block ?_
  refine loop_ghost (σ := Nat) (fun k a w' => ∃ u9 : Nat → Value, a = fr [(.slice p_a L_a.length q_a), (.slice p_b L_b.length q_b), Ud, Ud, (u9 4), (Iv (k : Int)), (.slice p_a L_a.length q_a), (Iv (L_a.length : Int)), (.slice p_b L_b.length q_b), (Iv (L_b.length : Int)), (Bo (icmp .neq (L_a.length : Int) (L_b.length : Int))), (u9 11), (u9 12), (u9 13), (u9 14), (u9 15), (u9 16), (u9 17), (u9 18), (u9 19), (u9 20), (u9 21), (u9 22), (u9 23), (u9 24), (u9 25), (u9 26)] ∧ Ext w w' ∧ (k ≤ L_a.length ∧ SameXTo sameSt L_a L_b k)) (fun k => L_a.length - k) 0 ?_ ?_
  · refine ⟨fun t => (([(.slice p_a L_a.length q_a), (.slice p_b L_b.length q_b), Ud, Ud, (Bo false), (Iv 0), (.slice p_a L_a.length q_a), (Iv (L_a.length : Int)), (.slice p_b L_b.length q_b), (Iv (L_b.length : Int)), (Bo (icmp .neq (L_a.length : Int) (L_b.length : Int))), Ud, Ud, Ud, Ud, Ud, Ud, Ud, Ud, Ud, Ud, Ud, Ud, Ud, Ud, Ud, Ud] : List Value)[t]?).getD undef, rfl, Ext.refl _, ?_⟩
    exact ⟨Nat.zero_le _, SameXTo.zero⟩
  · rintro k a w10 ⟨u9, rfl, E11, ⟨hk, hs⟩⟩
    have X13 := Ext.gr (Ext.refl w) E11
    refine wp_seq_k fun K14 hK14 => ?_
    refine wp_seq_k fun K15 hK15 => ?_
    refine wp_region_lit ?_
    refine q_is rfl rfl (does_move (u := (Iv (k : Int))) (ev rfl)) (by dsimp only [List.set]; try rfl) ?_
    refine q_is rfl rfl (does_move (u := (.slice p_a L_a.length q_a)) (ev rfl)) (by dsimp only [List.set]; try rfl) ?_
    refine q_is rfl rfl (does_len_slice Try.underlying27 (ev rfl)) (by dsimp only [List.set]; try rfl) ?_
    refine q_is rfl rfl (does_icmp (p := (k : Int)) (q := (L_a.length : Int)) (.inr (.inr (.inl rfl))) (ev rfl) (ev rfl)) (by dsimp only [List.set]; try rfl) ?_
    refine wpList_nil (hK15 _ _ ?_)
    refine wp_cond_split (t := icmp .lss (k : Int) (L_a.length : Int)) (ev rfl) (fun c16 => ?_) (fun c16 => ?_)
    · have c16' := c16
      (try simp only [icmp, Bool.and_eq_true, Bool.or_eq_true, Bool.and_eq_false_iff, Bool.or_eq_false_iff, Bool.not_eq_true', Bool.not_eq_false', decide_eq_true_eq, decide_eq_false_iff_not, beq_iff_eq, bne_iff_ne, beq_eq_false_iff_ne, bne_eq_false_iff_eq] at c16')
      refine wp_skip (hK14 _ _ ?_)
      refine wp_seq_k fun K17 hK17 => ?_
      refine wp_block ?_
      refine wp_seq_k fun K18 hK18 => ?_
      obtain ⟨el1, hel1⟩ : ∃ e, L_a[k]? = some e := ⟨_, List.getElem?_eq_getElem (by omega)⟩
      obtain ⟨el2, hel2⟩ : ∃ e, L_b[k]? = some e := ⟨_, List.getElem?_eq_getElem (by omega)⟩
      refine region_draw (
        [Fact.pure [] (fun v => v = (.slice p_a L_a.length q_a)),
    Fact.pure [] (fun v => v = (Iv (k : Int))),
    Fact.mem [17, 18] (fun v w' => PtrR RStepT w' v el1) (by intro v w1 w2 hx h; exact h.ext RStepT.mono hx),
    Fact.mem [19] (fun v w' => ∃ cs_1 : List Value, v = (.agg cs_1.toArray) ∧ RStepT w' el1 cs_1) (by rintro v w1 w2 hx ⟨z1, rfl, k0⟩; exact ⟨_, rfl, (RStepT.mono _ _ _ _ hx k0)⟩),
    Fact.pure [] (fun v => v = (.slice p_b L_b.length q_b)),
    Fact.pure [] (fun v => v = (Iv (k : Int))),
    Fact.mem [21, 22] (fun v w' => PtrR RStepT w' v el2) (by intro v w1 w2 hx h; exact h.ext RStepT.mono hx),
    Fact.mem [23] (fun v w' => ∃ cs_1 : List Value, v = (.agg cs_1.toArray) ∧ RStepT w' el2 cs_1) (by rintro v w1 w2 hx ⟨z1, rfl, k0⟩; exact ⟨_, rfl, (RStepT.mono _ _ _ _ hx k0)⟩),
    Fact.pure [20, 24] (fun v => v = (Bo (sameSt el1 el2))),
    Fact.pure [25] (fun v => v = (Bo (!(sameSt el1 el2))))]) mixed (by kernel_rfl) (by intro _ _ d _ _ h; cases d <;> exact h) ?_
      obtain ⟨w19, hw21⟩ : ∃ w', w' = World.drew w10 := ⟨_, rfl⟩; rw [← hw21]; have E20 : Ext w10 w19 := by rw [hw21]; exact Ext.draw _
      clear hw21
      have X22 := Ext.gr X13 E20
      refine RW_d _ rfl (fun v => by dsimp only [List.set]; try rfl) (fun u hu hF => ?_) (fun v23 => ?_)
      · clear hF
        refine doesG_un rfl ?_
        refine (does_move (u := (.slice p_a L_a.length q_a)) (ev rfl)).mono ?_; rintro _ _ ⟨rfl, rfl⟩
        exact ⟨rfl, Ext.refl _⟩
      refine RW_d _ rfl (fun v => by dsimp only [List.set]; try rfl) (fun u hu hF => ?_) (fun v24 => ?_)
      · clear hF
        refine doesG_un rfl ?_
        refine (does_move (u := (Iv (k : Int))) (ev rfl)).mono ?_; rintro _ _ ⟨rfl, rfl⟩
        exact ⟨rfl, Ext.refl _⟩
      refine RW_d _ rfl (fun v => by dsimp only [List.set]; try rfl) (fun u hu hF => ?_) (fun v25 => ?_)
      · have h17_ : v23 = (.slice p_a L_a.length q_a) := hF.1
        have h18_ : v24 = (Iv (k : Int)) := hF.2.1
        clear hF
        refine doesG_un rfl ?_
        obtain rfl := h17_
        obtain rfl := h18_
        refine (does_indexSl (R := RStepT) (i := (k : Int)) (xs := L_a) (e := el1) Try.underlying27 Try.sizeOf43 (ev rfl) (ev rfl) (Sl.ext (Sl.ext hv_a RStepT.mono (Ext.gr X13 E20)) RStepT.mono hu) (by omega) hel1).mono ?_; rintro v u' ⟨b, of, cs, hv, hc, hR, hu'⟩; subst hu'
        exact ⟨⟨b, of, cs, hv, hc, hR⟩, Ext.refl _⟩
      refine RW_d _ rfl (fun v => by dsimp only [List.set]; try rfl) (fun u hu hF => ?_) (fun v26 => ?_)
      · have h19_ : PtrR RStepT u v25 el1 := hF.1
        clear hF
        refine doesG_un rfl ?_
        obtain ⟨b19_, o19_, _, rfl, hc19_, ⟨y19_1, rfl, h19_2⟩⟩ := h19_
        have hh19_2 := h19_2; obtain ⟨p19_3, q19_4, rfl⟩ := Sl.shape h19_2
        refine (does_loadAgg (cs := [(Iv el1.kind), (Iv el1.to), (Iv el1.a), (Iv el1.b), (Iv el1.node.kind), (Iv el1.node.a), (Iv el1.node.b), (.slice p19_3 el1.node.nums.length q19_4)]) (ev rfl) Try.isAgg43 Try.sizeOf43 hc19_ rfl).mono ?_; rintro _ _ ⟨rfl, rfl⟩
        exact ⟨⟨[(Iv el1.kind), (Iv el1.to), (Iv el1.a), (Iv el1.b), (Iv el1.node.kind), (Iv el1.node.a), (Iv el1.node.b), (.slice p19_3 el1.node.nums.length q19_4)], rfl, ⟨(.slice p19_3 el1.node.nums.length q19_4), rfl, (by assumption)⟩⟩, Ext.refl _⟩
      refine RW_d _ rfl (fun v => by dsimp only [List.set]; try rfl) (fun u hu hF => ?_) (fun v27 => ?_)
      · clear hF
        refine doesG_un rfl ?_
        refine (does_move (u := (.slice p_b L_b.length q_b)) (ev rfl)).mono ?_; rintro _ _ ⟨rfl, rfl⟩
        exact ⟨rfl, Ext.refl _⟩
      refine RW_d _ rfl (fun v => by dsimp only [List.set]; try rfl) (fun u hu hF => ?_) (fun v28 => ?_)
      · clear hF
        refine doesG_un rfl ?_
        refine (does_move (u := (Iv (k : Int))) (ev rfl)).mono ?_; rintro _ _ ⟨rfl, rfl⟩
        exact ⟨rfl, Ext.refl _⟩
      refine RW_d _ rfl (fun v => by dsimp only [List.set]; try rfl) (fun u hu hF => ?_) (fun v29 => ?_)
      · have h21_ : v27 = (.slice p_b L_b.length q_b) := hF.1
        have h22_ : v28 = (Iv (k : Int)) := hF.2.1
        clear hF
        refine doesG_un rfl ?_
        obtain rfl := h21_
        obtain rfl := h22_
        refine (does_indexSl (R := RStepT) (i := (k : Int)) (xs := L_b) (e := el2) Try.underlying27 Try.sizeOf43 (ev rfl) (ev rfl) (Sl.ext (Sl.ext hv_b RStepT.mono (Ext.gr X13 E20)) RStepT.mono hu) (by omega) hel2).mono ?_; rintro v u' ⟨b, of, cs, hv, hc, hR, hu'⟩; subst hu'
        exact ⟨⟨b, of, cs, hv, hc, hR⟩, Ext.refl _⟩
      refine RW_d _ rfl (fun v => by dsimp only [List.set]; try rfl) (fun u hu hF => ?_) (fun v30 => ?_)
      · have h23_ : PtrR RStepT u v29 el2 := hF.1
        clear hF
        refine doesG_un rfl ?_
        obtain ⟨b23_, o23_, _, rfl, hc23_, ⟨y23_1, rfl, h23_2⟩⟩ := h23_
        have hh23_2 := h23_2; obtain ⟨p23_3, q23_4, rfl⟩ := Sl.shape h23_2
        refine (does_loadAgg (cs := [(Iv el2.kind), (Iv el2.to), (Iv el2.a), (Iv el2.b), (Iv el2.node.kind), (Iv el2.node.a), (Iv el2.node.b), (.slice p23_3 el2.node.nums.length q23_4)]) (ev rfl) Try.isAgg43 Try.sizeOf43 hc23_ rfl).mono ?_; rintro _ _ ⟨rfl, rfl⟩
        exact ⟨⟨[(Iv el2.kind), (Iv el2.to), (Iv el2.a), (Iv el2.b), (Iv el2.node.kind), (Iv el2.node.a), (Iv el2.node.b), (.slice p23_3 el2.node.nums.length q23_4)], rfl, ⟨(.slice p23_3 el2.node.nums.length q23_4), rfl, (by assumption)⟩⟩, Ext.refl _⟩
      refine RW_d _ rfl (fun v => by dsimp only [List.set]; try rfl) (fun u hu hF => ?_) (fun v31 => ?_)
      · have h20_ : ∃ cs_1 : List Value, v26 = (.agg cs_1.toArray) ∧ RStepT u el1 cs_1 := hF.1
        have h24_ : ∃ cs_1 : List Value, v30 = (.agg cs_1.toArray) ∧ RStepT u el2 cs_1 := hF.2.1
        clear hF
        refine doesG_un rfl ?_
        obtain ⟨_, rfl, ⟨y20_1, rfl, h20_2⟩⟩ := h20_
        have hh20_2 := h20_2; obtain ⟨p20_3, q20_4, rfl⟩ := Sl.shape h20_2
        obtain ⟨_, rfl, ⟨y24_1, rfl, h24_2⟩⟩ := h24_
        have hh24_2 := h24_2; obtain ⟨p24_3, q24_4, rfl⟩ := Sl.shape h24_2
        refine (does_call (args := #[(.agg #[(Iv el1.kind), (Iv el1.to), (Iv el1.a), (Iv el1.b), (Iv el1.node.kind), (Iv el1.node.a), (Iv el1.node.b), (.slice p20_3 el1.node.nums.length q20_4)]), (.agg #[(Iv el2.kind), (Iv el2.to), (Iv el2.a), (Iv el2.b), (Iv el2.node.kind), (Iv el2.node.a), (Iv el2.node.b), (.slice p24_3 el2.node.nums.length q24_4)])]) cal32 (evs rfl) (c_laws_eqStep [(Iv el1.kind), (Iv el1.to), (Iv el1.a), (Iv el1.b), (Iv el1.node.kind), (Iv el1.node.a), (Iv el1.node.b), (.slice p20_3 el1.node.nums.length q20_4)] el1 [(Iv el2.kind), (Iv el2.to), (Iv el2.a), (Iv el2.b), (Iv el2.node.kind), (Iv el2.node.a), (Iv el2.node.b), (.slice p24_3 el2.node.nums.length q24_4)] el2 _ ⟨(.slice p20_3 el1.node.nums.length q20_4), rfl, hh20_2⟩ ⟨(.slice p24_3 el2.node.nums.length q24_4), rfl, hh24_2⟩)).mono ?_; rintro v u' ⟨hx, hv⟩
        exact ⟨hv, hx⟩
      refine RW_d _ rfl (fun v => by dsimp only [List.set]; try rfl) (fun u hu hF => ?_) (fun v32 => ?_)
      · have h25_ : v31 = (Bo (sameSt el1 el2)) := hF.1
        clear hF
        refine doesG_un rfl ?_
        obtain rfl := h25_
        refine (does_not (ev rfl)).mono ?_; rintro _ _ ⟨rfl, rfl⟩
        exact ⟨rfl, Ext.refl _⟩
      refine RW_fin ?_; intro w33 E34 hP35
      obtain ⟨⟨⟨⟨⟨⟨⟨⟨⟨⟨-, -⟩, -⟩, -⟩, -⟩, -⟩, -⟩, -⟩, -⟩, -⟩, q36⟩ := hP35
      have X37 := Ext.gr X22 E34
      have q36 : v32 = (Bo (!(sameSt el1 el2))) := q36
      obtain rfl := q36
      show wpList _ _ _ _ (fr [(.slice p_a L_a.length q_a), (.slice p_b L_b.length q_b), Ud, Ud, (u9 4), (Iv (k : Int)), (.slice p_a L_a.length q_a), (Iv (L_a.length : Int)), (.slice p_b L_b.length q_b), (Iv (L_b.length : Int)), (Bo (icmp .neq (L_a.length : Int) (L_b.length : Int))), (Iv (k : Int)), (.slice p_a L_a.length q_a), (Iv (L_a.length : Int)), (Bo (icmp .lss (k : Int) (L_a.length : Int))), (u9 15), (u9 16), v23, v24, v25, v26, v27, v28, v29, v30, v31, (Bo (!(sameSt el1 el2)))]) _
      refine wpList_nil (hK18 _ _ ?_)
      refine wp_cond_split (t := !(sameSt el1 el2)) (ev rfl) (fun c38 => ?_) (fun c38 => ?_)
      · rw [Bool.not_eq_true'] at c38
        have c38' := c38
        refine wp_seq_k fun K39 hK39 => ?_
        refine wp_region_lit ?_
        refine q_is rfl rfl (does_assign (u := (Bo false)) (ev rfl)) (by dsimp only [List.set]; try rfl) ?_
        refine wpList_nil (hK39 _ _ ?_)
        refine wp_ret ?_
        dsimp only [Exit.then, Exit.inBlock]
        refine ret_val (v := (Bo false)) (res_T rfl (slot rfl)) X37 ?_
        try simp only [hel1, hel2] at c4 c16 c38
        have x40 : (sameX sameSt L_a L_b) = false := by first | exact (sameX_len (by omega)) | exact (sameX_not (by omega) (by assumption) (by assumption) (by simp_all)) | exact (sameX_all (by omega) (by omega) hs)
        exact (by first | rfl | rw [x40])
      rw [Bool.not_eq_false'] at c38
      have c38' := c38
      refine wp_skip (hK17 _ _ ?_)
      refine wp_region_lit ?_
      refine q_is rfl rfl (does_move (u := (Iv (k : Int))) (ev rfl)) (by dsimp only [List.set]; try rfl) ?_
      refine q_is rfl rfl (does_iarith (p := (k : Int)) (q := 1) (r := (k : Int) + 1) (ev rfl) (ev rfl) (.inl ⟨rfl, (in_i64 (by omega) (by omega)).symm⟩)) (by dsimp only [List.set]; try rfl) ?_
      refine q_is rfl rfl (does_assign (u := (Iv ((k : Int) + 1))) (ev rfl)) (by dsimp only [List.set]; try rfl) ?_
      refine wpList_nil ?_
      refine ⟨k + 1, ⟨fun t => (([(.slice p_a L_a.length q_a), (.slice p_b L_b.length q_b), Ud, Ud, (u9 4), (Iv ((k : Int) + 1)), (.slice p_a L_a.length q_a), (Iv (L_a.length : Int)), (.slice p_b L_b.length q_b), (Iv (L_b.length : Int)), (Bo (icmp .neq (L_a.length : Int) (L_b.length : Int))), (Iv (k : Int)), (.slice p_a L_a.length q_a), (Iv (L_a.length : Int)), (Bo (icmp .lss (k : Int) (L_a.length : Int))), (Iv (k : Int)), (Iv ((k : Int) + 1)), v23, v24, v25, v26, v27, v28, v29, v30, v31, (Bo (!(sameSt el1 el2)))] : List Value)[t]?).getD undef, ?_, (Ext.gr (Ext.gr E11 E20) E34), ?_⟩, ?_⟩
      · first | rfl | (simp only [Nat.cast_add, Nat.cast_one, Int.natCast_add, Int.natCast_one]; rfl)
      · exact ⟨by omega, SameXTo.step hs (by assumption) (by assumption) (by simp_all)⟩
      · omega
    have c16' := c16
    (try simp only [icmp, Bool.and_eq_true, Bool.or_eq_true, Bool.and_eq_false_iff, Bool.or_eq_false_iff, Bool.not_eq_true', Bool.not_eq_false', decide_eq_true_eq, decide_eq_false_iff_not, beq_iff_eq, bne_iff_ne, beq_eq_false_iff_ne, bne_eq_false_iff_eq] at c16')
    refine wp_exit ?_
    refine hK7 _ _ ?_
    refine wp_seq_k fun K41 hK41 => ?_
    refine wp_region_lit ?_
    refine q_is rfl rfl (does_assign (u := (Bo true)) (ev rfl)) (by dsimp only [List.set]; try rfl) ?_
    refine wpList_nil (hK41 _ _ ?_)
    refine wp_ret ?_
    refine ret_val (v := (Bo true)) (res_T rfl (slot rfl)) X13 ?_
    have x42 : (sameX sameSt L_a L_b) = true := by first | exact (sameX_len (by omega)) | exact (sameX_not (by omega) (by assumption) (by assumption) (by simp_all)) | exact (sameX_all (by omega) (by omega) hs)
    exact (by first | rfl | rw [x42])

/- laws.eqProgram -/
theorem c_laws_eqProgram (a : List Value) (A_a : ProgT) (b : List Value) (A_b : ProgT) (w : World) (hv_a : RProgT w A_a a) (hv_b : RProgT w A_b b) : Gives Try.prog 9 #[(.agg a.toArray), (.agg b.toArray)] w (fun v w' => v = (Bo (samePr A_a A_b))) := by
  obtain ⟨y1, rfl, h2⟩ := hv_a
  obtain ⟨y3, rfl, h4⟩ := hv_b
  have hs7 := h2; have hs7l := Sl.len h2; obtain ⟨p5, q6, rfl⟩ := Sl.shape h2
  have hs10 := h4; have hs10l := Sl.len h4; obtain ⟨p8, q9, rfl⟩ := Sl.shape h4
  refine enter [(.agg #[(Iv A_a.points), (Iv A_a.values), (.slice p5 A_a.steps.length q6)]), (.agg #[(Iv A_b.points), (Iv A_b.values), (.slice p8 A_b.steps.length q9)]), Ud, Ud, Ud, Ud, Ud, Ud, Ud, Ud, Ud, Ud, Ud, Ud, Ud, Ud, Ud, Ud, Ud, Ud, Ud] Try.func9 rfl Try.ntmps9 rfl ?_
  refine wp_seq_k fun K11 hK11 => ?_
  refine wp_region_lit ?_
  refine seqd rfl rfl (does_box (u := (.agg #[(Iv A_a.points), (Iv A_a.values), (.slice p5 A_a.steps.length q6)])) (ev rfl)) ?_; rintro _ w16 ⟨b12, rfl, hb13, hB14, E15⟩
  have g17 : w.heap.size ≤ b12 := Nat.le_trans (Below.size (Ext.refl w)) hb13
  change Blk _ _ [(Iv A_a.points), (Iv A_a.values), (.slice p5 A_a.steps.length q6)] at hB14
  have X18 := Ext.gr (Ext.refl w) E15
  show wpList _ _ _ _ (fr [(.agg #[(Iv A_a.points), (Iv A_a.values), (.slice p5 A_a.steps.length q6)]), (.agg #[(Iv A_b.points), (Iv A_b.values), (.slice p8 A_b.steps.length q9)]), (Pt b12 0), Ud, Ud, Ud, Ud, Ud, Ud, Ud, Ud, Ud, Ud, Ud, Ud, Ud, Ud, Ud, Ud, Ud, Ud]) _
  refine seqd rfl rfl (does_box (u := (.agg #[(Iv A_b.points), (Iv A_b.values), (.slice p8 A_b.steps.length q9)])) (ev rfl)) ?_; rintro _ w23 ⟨b19, rfl, hb20, hB21, E22⟩
  have n24 : b12 < b19 := Nat.lt_of_lt_of_le (Blk.lt hB14) hb20
  have g25 : w.heap.size ≤ b19 := Nat.le_trans (Below.size X18) hb20
  change Blk _ _ [(Iv A_b.points), (Iv A_b.values), (.slice p8 A_b.steps.length q9)] at hB21
  have X26 := Ext.gr X18 E22
  show wpList _ _ _ _ (fr [(.agg #[(Iv A_a.points), (Iv A_a.values), (.slice p5 A_a.steps.length q6)]), (.agg #[(Iv A_b.points), (Iv A_b.values), (.slice p8 A_b.steps.length q9)]), (Pt b12 0), (Pt b19 0), Ud, Ud, Ud, Ud, Ud, Ud, Ud, Ud, Ud, Ud, Ud, Ud, Ud, Ud, Ud, Ud, Ud]) _
  refine q_is (l' := [(.agg #[(Iv A_a.points), (Iv A_a.values), (.slice p5 A_a.steps.length q6)]), (.agg #[(Iv A_b.points), (Iv A_b.values), (.slice p8 A_b.steps.length q9)]), (Pt b12 0), (Pt b19 0), (Bo false), Ud, Ud, Ud, Ud, Ud, Ud, Ud, Ud, Ud, Ud, Ud, Ud, Ud, Ud, Ud, Ud]) rfl rfl (does_assign (u := (Bo false)) (ev rfl)) rfl ?_
  refine wpList_nil (hK11 _ _ ?_)
  refine wp_seq_k fun K27 hK27 => ?_
  refine wp_seq_k fun K28 hK28 => ?_
  refine wp_region_lit ?_
  refine q_is (l' := [(.agg #[(Iv A_a.points), (Iv A_a.values), (.slice p5 A_a.steps.length q6)]), (.agg #[(Iv A_b.points), (Iv A_b.values), (.slice p8 A_b.steps.length q9)]), (Pt b12 0), (Pt b19 0), (Bo false), (Pt b12 0), Ud, Ud, Ud, Ud, Ud, Ud, Ud, Ud, Ud, Ud, Ud, Ud, Ud, Ud, Ud]) rfl rfl (does_fieldAddr (ev rfl) fa29_0) rfl ?_
  refine q_is (l' := [(.agg #[(Iv A_a.points), (Iv A_a.values), (.slice p5 A_a.steps.length q6)]), (.agg #[(Iv A_b.points), (Iv A_b.values), (.slice p8 A_b.steps.length q9)]), (Pt b12 0), (Pt b19 0), (Bo false), (Pt b12 0), (Iv A_a.points), Ud, Ud, Ud, Ud, Ud, Ud, Ud, Ud, Ud, Ud, Ud, Ud, Ud, Ud]) rfl rfl (does_load (u := (Iv A_a.points)) (ev rfl) Try.isAgg2 (Cells.at (Blk.cells (hB14.ext E22)) 0 rfl)) rfl ?_
  refine q_is (l' := [(.agg #[(Iv A_a.points), (Iv A_a.values), (.slice p5 A_a.steps.length q6)]), (.agg #[(Iv A_b.points), (Iv A_b.values), (.slice p8 A_b.steps.length q9)]), (Pt b12 0), (Pt b19 0), (Bo false), (Pt b12 0), (Iv A_a.points), (Pt b19 0), Ud, Ud, Ud, Ud, Ud, Ud, Ud, Ud, Ud, Ud, Ud, Ud, Ud]) rfl rfl (does_fieldAddr (ev rfl) fa29_0) rfl ?_
  refine q_is (l' := [(.agg #[(Iv A_a.points), (Iv A_a.values), (.slice p5 A_a.steps.length q6)]), (.agg #[(Iv A_b.points), (Iv A_b.values), (.slice p8 A_b.steps.length q9)]), (Pt b12 0), (Pt b19 0), (Bo false), (Pt b12 0), (Iv A_a.points), (Pt b19 0), (Iv A_b.points), Ud, Ud, Ud, Ud, Ud, Ud, Ud, Ud, Ud, Ud, Ud, Ud]) rfl rfl (does_load (u := (Iv A_b.points)) (ev rfl) Try.isAgg2 (Cells.at (Blk.cells hB21) 0 rfl)) rfl ?_
  refine q_is (l' := [(.agg #[(Iv A_a.points), (Iv A_a.values), (.slice p5 A_a.steps.length q6)]), (.agg #[(Iv A_b.points), (Iv A_b.values), (.slice p8 A_b.steps.length q9)]), (Pt b12 0), (Pt b19 0), (Bo false), (Pt b12 0), (Iv A_a.points), (Pt b19 0), (Iv A_b.points), (Bo (icmp .neq A_a.points A_b.points)), Ud, Ud, Ud, Ud, Ud, Ud, Ud, Ud, Ud, Ud, Ud]) rfl rfl (does_icmp (p := A_a.points) (q := A_b.points) (.inr (.inl rfl)) (ev rfl) (ev rfl)) rfl ?_
  refine wpList_nil (hK28 _ _ ?_)
  refine wp_cond_split (t := icmp .neq A_a.points A_b.points) (ev rfl) (fun c29 => ?_) (fun c29 => ?_)
  · have c29' := c29
    (try simp only [icmp, Bool.and_eq_true, Bool.or_eq_true, Bool.and_eq_false_iff, Bool.or_eq_false_iff, Bool.not_eq_true', Bool.not_eq_false', decide_eq_true_eq, decide_eq_false_iff_not, beq_iff_eq, bne_iff_ne, beq_eq_false_iff_ne, bne_eq_false_iff_eq] at c29')
    refine wp_seq_k fun K30 hK30 => ?_
    refine wp_region_lit ?_
    refine q_is (l' := [(.agg #[(Iv A_a.points), (Iv A_a.values), (.slice p5 A_a.steps.length q6)]), (.agg #[(Iv A_b.points), (Iv A_b.values), (.slice p8 A_b.steps.length q9)]), (Pt b12 0), (Pt b19 0), (Bo false), (Pt b12 0), (Iv A_a.points), (Pt b19 0), (Iv A_b.points), (Bo (icmp .neq A_a.points A_b.points)), Ud, Ud, Ud, Ud, Ud, Ud, Ud, Ud, Ud, Ud, Ud]) rfl rfl (does_assign (u := (Bo false)) (ev rfl)) rfl ?_
    refine wpList_nil (hK30 _ _ ?_)
    refine wp_ret ?_
    dsimp only [Exit.then, Exit.inBlock]
    refine ret_val (v := (Bo false)) (res_T rfl (slot rfl)) X26 ?_
    have x31 : (samePr A_a A_b) = false := by first | with_reducible rfl | (simp only [samePr, icmp, c29]; done) | (simp [samePr, icmp, c29]; done) | (revert c29; simp +contextual [samePr, icmp]; done) | (rcases c29' with hh | hh <;> simp only [hh, samePr, icmp, c29]; done) | (rcases c29' with hh | hh <;> simp_all [samePr, icmp]; done) | (rcases c29' with hh | hh | hh <;> simp_all [samePr, icmp]; done) | (rcases c29' with hh | hh | hh | hh <;> simp_all [samePr, icmp]; done) | (simp_all [samePr, icmp]; done) | rfl
    exact (by first | rfl | rw [x31])
  have c29' := c29
  (try simp only [icmp, Bool.and_eq_true, Bool.or_eq_true, Bool.and_eq_false_iff, Bool.or_eq_false_iff, Bool.not_eq_true', Bool.not_eq_false', decide_eq_true_eq, decide_eq_false_iff_not, beq_iff_eq, bne_iff_ne, beq_eq_false_iff_ne, bne_eq_false_iff_eq] at c29')
  refine wp_skip (hK27 _ _ ?_)
  refine wp_seq_k fun K32 hK32 => ?_
  refine wp_seq_k fun K33 hK33 => ?_
  refine wp_region_lit ?_
  refine q_is (l' := [(.agg #[(Iv A_a.points), (Iv A_a.values), (.slice p5 A_a.steps.length q6)]), (.agg #[(Iv A_b.points), (Iv A_b.values), (.slice p8 A_b.steps.length q9)]), (Pt b12 0), (Pt b19 0), (Bo false), (Pt b12 0), (Iv A_a.points), (Pt b19 0), (Iv A_b.points), (Bo (icmp .neq A_a.points A_b.points)), (Pt b12 1), Ud, Ud, Ud, Ud, Ud, Ud, Ud, Ud, Ud, Ud]) rfl rfl (does_fieldAddr (ev rfl) fa29_1) rfl ?_
  refine q_is (l' := [(.agg #[(Iv A_a.points), (Iv A_a.values), (.slice p5 A_a.steps.length q6)]), (.agg #[(Iv A_b.points), (Iv A_b.values), (.slice p8 A_b.steps.length q9)]), (Pt b12 0), (Pt b19 0), (Bo false), (Pt b12 0), (Iv A_a.points), (Pt b19 0), (Iv A_b.points), (Bo (icmp .neq A_a.points A_b.points)), (Pt b12 1), (Iv A_a.values), Ud, Ud, Ud, Ud, Ud, Ud, Ud, Ud, Ud]) rfl rfl (does_load (u := (Iv A_a.values)) (ev rfl) Try.isAgg2 (Cells.at (Blk.cells (hB14.ext E22)) 1 rfl)) rfl ?_
  refine q_is (l' := [(.agg #[(Iv A_a.points), (Iv A_a.values), (.slice p5 A_a.steps.length q6)]), (.agg #[(Iv A_b.points), (Iv A_b.values), (.slice p8 A_b.steps.length q9)]), (Pt b12 0), (Pt b19 0), (Bo false), (Pt b12 0), (Iv A_a.points), (Pt b19 0), (Iv A_b.points), (Bo (icmp .neq A_a.points A_b.points)), (Pt b12 1), (Iv A_a.values), (Pt b19 1), Ud, Ud, Ud, Ud, Ud, Ud, Ud, Ud]) rfl rfl (does_fieldAddr (ev rfl) fa29_1) rfl ?_
  refine q_is (l' := [(.agg #[(Iv A_a.points), (Iv A_a.values), (.slice p5 A_a.steps.length q6)]), (.agg #[(Iv A_b.points), (Iv A_b.values), (.slice p8 A_b.steps.length q9)]), (Pt b12 0), (Pt b19 0), (Bo false), (Pt b12 0), (Iv A_a.points), (Pt b19 0), (Iv A_b.points), (Bo (icmp .neq A_a.points A_b.points)), (Pt b12 1), (Iv A_a.values), (Pt b19 1), (Iv A_b.values), Ud, Ud, Ud, Ud, Ud, Ud, Ud]) rfl rfl (does_load (u := (Iv A_b.values)) (ev rfl) Try.isAgg2 (Cells.at (Blk.cells hB21) 1 rfl)) rfl ?_
  refine q_is (l' := [(.agg #[(Iv A_a.points), (Iv A_a.values), (.slice p5 A_a.steps.length q6)]), (.agg #[(Iv A_b.points), (Iv A_b.values), (.slice p8 A_b.steps.length q9)]), (Pt b12 0), (Pt b19 0), (Bo false), (Pt b12 0), (Iv A_a.points), (Pt b19 0), (Iv A_b.points), (Bo (icmp .neq A_a.points A_b.points)), (Pt b12 1), (Iv A_a.values), (Pt b19 1), (Iv A_b.values), (Bo (icmp .neq A_a.values A_b.values)), Ud, Ud, Ud, Ud, Ud, Ud]) rfl rfl (does_icmp (p := A_a.values) (q := A_b.values) (.inr (.inl rfl)) (ev rfl) (ev rfl)) rfl ?_
  refine wpList_nil (hK33 _ _ ?_)
  refine wp_cond_split (t := icmp .neq A_a.values A_b.values) (ev rfl) (fun c34 => ?_) (fun c34 => ?_)
  · have c34' := c34
    (try simp only [icmp, Bool.and_eq_true, Bool.or_eq_true, Bool.and_eq_false_iff, Bool.or_eq_false_iff, Bool.not_eq_true', Bool.not_eq_false', decide_eq_true_eq, decide_eq_false_iff_not, beq_iff_eq, bne_iff_ne, beq_eq_false_iff_ne, bne_eq_false_iff_eq] at c34')
    refine wp_seq_k fun K35 hK35 => ?_
    refine wp_region_lit ?_
    refine q_is (l' := [(.agg #[(Iv A_a.points), (Iv A_a.values), (.slice p5 A_a.steps.length q6)]), (.agg #[(Iv A_b.points), (Iv A_b.values), (.slice p8 A_b.steps.length q9)]), (Pt b12 0), (Pt b19 0), (Bo false), (Pt b12 0), (Iv A_a.points), (Pt b19 0), (Iv A_b.points), (Bo (icmp .neq A_a.points A_b.points)), (Pt b12 1), (Iv A_a.values), (Pt b19 1), (Iv A_b.values), (Bo (icmp .neq A_a.values A_b.values)), Ud, Ud, Ud, Ud, Ud, Ud]) rfl rfl (does_assign (u := (Bo false)) (ev rfl)) rfl ?_
    refine wpList_nil (hK35 _ _ ?_)
    refine wp_ret ?_
    dsimp only [Exit.then, Exit.inBlock]
    refine ret_val (v := (Bo false)) (res_T rfl (slot rfl)) X26 ?_
    have x36 : (samePr A_a A_b) = false := by first | with_reducible rfl | (simp only [samePr, icmp, c29, c34]; done) | (simp [samePr, icmp, c29, c34]; done) | (revert c29 c34; simp +contextual [samePr, icmp]; done) | (rcases c29' with hh | hh <;> simp only [hh, samePr, icmp, c29, c34]; done) | (rcases c34' with hh | hh <;> simp only [hh, samePr, icmp, c29, c34]; done) | (rcases c34' with hh | hh <;> simp_all [samePr, icmp]; done) | (rcases c34' with hh | hh | hh <;> simp_all [samePr, icmp]; done) | (rcases c34' with hh | hh | hh | hh <;> simp_all [samePr, icmp]; done) | (simp_all [samePr, icmp]; done) | rfl
    exact (by first | rfl | rw [x36])
  have c34' := c34
  (try simp only [icmp, Bool.and_eq_true, Bool.or_eq_true, Bool.and_eq_false_iff, Bool.or_eq_false_iff, Bool.not_eq_true', Bool.not_eq_false', decide_eq_true_eq, decide_eq_false_iff_not, beq_iff_eq, bne_iff_ne, beq_eq_false_iff_ne, bne_eq_false_iff_eq] at c34')
  refine wp_skip (hK32 _ _ ?_)
  refine wp_seq_k fun K37 hK37 => ?_
  refine wp_seq_k fun K38 hK38 => ?_
  refine wp_region_lit ?_
  refine q_is (l' := [(.agg #[(Iv A_a.points), (Iv A_a.values), (.slice p5 A_a.steps.length q6)]), (.agg #[(Iv A_b.points), (Iv A_b.values), (.slice p8 A_b.steps.length q9)]), (Pt b12 0), (Pt b19 0), (Bo false), (Pt b12 0), (Iv A_a.points), (Pt b19 0), (Iv A_b.points), (Bo (icmp .neq A_a.points A_b.points)), (Pt b12 1), (Iv A_a.values), (Pt b19 1), (Iv A_b.values), (Bo (icmp .neq A_a.values A_b.values)), (Pt b12 2), Ud, Ud, Ud, Ud, Ud]) rfl rfl (does_fieldAddr (ev rfl) fa29_2) rfl ?_
  refine q_is (l' := [(.agg #[(Iv A_a.points), (Iv A_a.values), (.slice p5 A_a.steps.length q6)]), (.agg #[(Iv A_b.points), (Iv A_b.values), (.slice p8 A_b.steps.length q9)]), (Pt b12 0), (Pt b19 0), (Bo false), (Pt b12 0), (Iv A_a.points), (Pt b19 0), (Iv A_b.points), (Bo (icmp .neq A_a.points A_b.points)), (Pt b12 1), (Iv A_a.values), (Pt b19 1), (Iv A_b.values), (Bo (icmp .neq A_a.values A_b.values)), (Pt b12 2), (.slice p5 A_a.steps.length q6), Ud, Ud, Ud, Ud]) rfl rfl (does_load (u := (.slice p5 A_a.steps.length q6)) (ev rfl) Try.isAgg27 (Cells.at (Blk.cells (hB14.ext E22)) 2 rfl)) rfl ?_
  refine q_is (l' := [(.agg #[(Iv A_a.points), (Iv A_a.values), (.slice p5 A_a.steps.length q6)]), (.agg #[(Iv A_b.points), (Iv A_b.values), (.slice p8 A_b.steps.length q9)]), (Pt b12 0), (Pt b19 0), (Bo false), (Pt b12 0), (Iv A_a.points), (Pt b19 0), (Iv A_b.points), (Bo (icmp .neq A_a.points A_b.points)), (Pt b12 1), (Iv A_a.values), (Pt b19 1), (Iv A_b.values), (Bo (icmp .neq A_a.values A_b.values)), (Pt b12 2), (.slice p5 A_a.steps.length q6), (Pt b19 2), Ud, Ud, Ud]) rfl rfl (does_fieldAddr (ev rfl) fa29_2) rfl ?_
  refine q_is (l' := [(.agg #[(Iv A_a.points), (Iv A_a.values), (.slice p5 A_a.steps.length q6)]), (.agg #[(Iv A_b.points), (Iv A_b.values), (.slice p8 A_b.steps.length q9)]), (Pt b12 0), (Pt b19 0), (Bo false), (Pt b12 0), (Iv A_a.points), (Pt b19 0), (Iv A_b.points), (Bo (icmp .neq A_a.points A_b.points)), (Pt b12 1), (Iv A_a.values), (Pt b19 1), (Iv A_b.values), (Bo (icmp .neq A_a.values A_b.values)), (Pt b12 2), (.slice p5 A_a.steps.length q6), (Pt b19 2), (.slice p8 A_b.steps.length q9), Ud, Ud]) rfl rfl (does_load (u := (.slice p8 A_b.steps.length q9)) (ev rfl) Try.isAgg27 (Cells.at (Blk.cells hB21) 2 rfl)) rfl ?_
  refine seqd rfl rfl (does_call (args := #[(.slice p5 A_a.steps.length q6), (.slice p8 A_b.steps.length q9)]) cal20 (evs rfl) (c_laws_eqStepS (.slice p5 A_a.steps.length q6) A_a.steps (.slice p8 A_b.steps.length q9) A_b.steps _ (Sl.ext hs7 RStepT.mono X26) (Sl.ext hs10 RStepT.mono X26))) ?_; rintro _ w40 ⟨E39, rfl⟩
  have X41 := Ext.gr X26 E39
  show wpList _ _ _ _ (fr [(.agg #[(Iv A_a.points), (Iv A_a.values), (.slice p5 A_a.steps.length q6)]), (.agg #[(Iv A_b.points), (Iv A_b.values), (.slice p8 A_b.steps.length q9)]), (Pt b12 0), (Pt b19 0), (Bo false), (Pt b12 0), (Iv A_a.points), (Pt b19 0), (Iv A_b.points), (Bo (icmp .neq A_a.points A_b.points)), (Pt b12 1), (Iv A_a.values), (Pt b19 1), (Iv A_b.values), (Bo (icmp .neq A_a.values A_b.values)), (Pt b12 2), (.slice p5 A_a.steps.length q6), (Pt b19 2), (.slice p8 A_b.steps.length q9), (Bo (sameX sameSt A_a.steps A_b.steps)), Ud]) _
  refine q_is (l' := [(.agg #[(Iv A_a.points), (Iv A_a.values), (.slice p5 A_a.steps.length q6)]), (.agg #[(Iv A_b.points), (Iv A_b.values), (.slice p8 A_b.steps.length q9)]), (Pt b12 0), (Pt b19 0), (Bo false), (Pt b12 0), (Iv A_a.points), (Pt b19 0), (Iv A_b.points), (Bo (icmp .neq A_a.points A_b.points)), (Pt b12 1), (Iv A_a.values), (Pt b19 1), (Iv A_b.values), (Bo (icmp .neq A_a.values A_b.values)), (Pt b12 2), (.slice p5 A_a.steps.length q6), (Pt b19 2), (.slice p8 A_b.steps.length q9), (Bo (sameX sameSt A_a.steps A_b.steps)), (Bo (!(sameX sameSt A_a.steps A_b.steps)))]) rfl rfl (does_not (ev rfl)) rfl ?_
  refine wpList_nil (hK38 _ _ ?_)
  refine wp_cond_split (t := !(sameX sameSt A_a.steps A_b.steps)) (ev rfl) (fun c42 => ?_) (fun c42 => ?_)
  · rw [Bool.not_eq_true'] at c42
    have c42' := c42
    refine wp_seq_k fun K43 hK43 => ?_
    refine wp_region_lit ?_
    refine q_is (l' := [(.agg #[(Iv A_a.points), (Iv A_a.values), (.slice p5 A_a.steps.length q6)]), (.agg #[(Iv A_b.points), (Iv A_b.values), (.slice p8 A_b.steps.length q9)]), (Pt b12 0), (Pt b19 0), (Bo false), (Pt b12 0), (Iv A_a.points), (Pt b19 0), (Iv A_b.points), (Bo (icmp .neq A_a.points A_b.points)), (Pt b12 1), (Iv A_a.values), (Pt b19 1), (Iv A_b.values), (Bo (icmp .neq A_a.values A_b.values)), (Pt b12 2), (.slice p5 A_a.steps.length q6), (Pt b19 2), (.slice p8 A_b.steps.length q9), (Bo (sameX sameSt A_a.steps A_b.steps)), (Bo (!(sameX sameSt A_a.steps A_b.steps)))]) rfl rfl (does_assign (u := (Bo false)) (ev rfl)) rfl ?_
    refine wpList_nil (hK43 _ _ ?_)
    refine wp_ret ?_
    dsimp only [Exit.then, Exit.inBlock]
    refine ret_val (v := (Bo false)) (res_T rfl (slot rfl)) X41 ?_
    have x44 : (samePr A_a A_b) = false := by first | with_reducible rfl | (simp only [samePr, icmp, c29, c34, c42]; done) | (simp [samePr, icmp, c29, c34, c42]; done) | (revert c29 c34 c42; simp +contextual [samePr, icmp]; done) | (rcases c29' with hh | hh <;> simp only [hh, samePr, icmp, c29, c34, c42]; done) | (rcases c34' with hh | hh <;> simp only [hh, samePr, icmp, c29, c34, c42]; done) | (rcases c42' with hh | hh <;> simp only [hh, samePr, icmp, c29, c34, c42]; done) | (rcases c42' with hh | hh <;> simp_all [samePr, icmp]; done) | (rcases c42' with hh | hh | hh <;> simp_all [samePr, icmp]; done) | (rcases c42' with hh | hh | hh | hh <;> simp_all [samePr, icmp]; done) | (simp_all [samePr, icmp]; done) | rfl
    exact (by first | rfl | rw [x44])
  rw [Bool.not_eq_false'] at c42
  have c42' := c42
  refine wp_skip (hK37 _ _ ?_)
  refine wp_seq_k fun K45 hK45 => ?_
  refine wp_region_lit ?_
  refine q_is (l' := [(.agg #[(Iv A_a.points), (Iv A_a.values), (.slice p5 A_a.steps.length q6)]), (.agg #[(Iv A_b.points), (Iv A_b.values), (.slice p8 A_b.steps.length q9)]), (Pt b12 0), (Pt b19 0), (Bo true), (Pt b12 0), (Iv A_a.points), (Pt b19 0), (Iv A_b.points), (Bo (icmp .neq A_a.points A_b.points)), (Pt b12 1), (Iv A_a.values), (Pt b19 1), (Iv A_b.values), (Bo (icmp .neq A_a.values A_b.values)), (Pt b12 2), (.slice p5 A_a.steps.length q6), (Pt b19 2), (.slice p8 A_b.steps.length q9), (Bo (sameX sameSt A_a.steps A_b.steps)), (Bo (!(sameX sameSt A_a.steps A_b.steps)))]) rfl rfl (does_assign (u := (Bo true)) (ev rfl)) rfl ?_
  refine wpList_nil (hK45 _ _ ?_)
  refine wp_ret ?_
  refine ret_val (v := (Bo true)) (res_T rfl (slot rfl)) X41 ?_
  have x46 : (samePr A_a A_b) = true := by first | with_reducible rfl | (simp only [samePr, icmp, c29, c34, c42]; done) | (simp [samePr, icmp, c29, c34, c42]; done) | (revert c29 c34 c42; simp +contextual [samePr, icmp]; done) | (rcases c29' with hh | hh <;> simp only [hh, samePr, icmp, c29, c34, c42]; done) | (rcases c34' with hh | hh <;> simp only [hh, samePr, icmp, c29, c34, c42]; done) | (rcases c42' with hh | hh <;> simp only [hh, samePr, icmp, c29, c34, c42]; done) | (rcases c42' with hh | hh <;> simp_all [samePr, icmp]; done) | (rcases c42' with hh | hh | hh <;> simp_all [samePr, icmp]; done) | (rcases c42' with hh | hh | hh | hh <;> simp_all [samePr, icmp]; done) | (simp_all [samePr, icmp]; done) | rfl
  exact (by first | rfl | rw [x46])

/- laws.FnExactSameProgram -/
theorem c_laws_FnExactSameProgram (a : List Value) (A_a : ProgT) (b : List Value) (A_b : ProgT) (w : World) (hv_a : RProgT w A_a a) (hv_b : RProgT w A_b b) (hba : bdP A_a) (hbb : bdP A_b) : Gives Try.prog 3 #[(.agg a.toArray), (.agg b.toArray)] w (fun v w' => v = (Bo true)) := by
  obtain ⟨y1, rfl, h2⟩ := hv_a
  obtain ⟨y3, rfl, h4⟩ := hv_b
  have hs7 := h2; have hs7l := Sl.len h2; obtain ⟨p5, q6, rfl⟩ := Sl.shape h2
  have hs10 := h4; have hs10l := Sl.len h4; obtain ⟨p8, q9, rfl⟩ := Sl.shape h4
  have hsb := sProg_eq hba hbb
  refine enter [(.agg #[(Iv A_a.points), (Iv A_a.values), (.slice p5 A_a.steps.length q6)]), (.agg #[(Iv A_b.points), (Iv A_b.values), (.slice p8 A_b.steps.length q9)]), Ud, Ud, Ud, Ud, Ud, Ud, Ud, Ud, Ud, Ud, Ud, Ud, Ud, Ud, Ud, Ud, Ud, Ud, Ud, Ud, Ud, Ud, Ud, Ud, Ud, Ud, Ud, Ud, Ud, Ud, Ud, Ud, Ud, Ud, Ud, Ud, Ud, Ud, Ud, Ud, Ud, Ud, Ud] Try.func3 rfl Try.ntmps3 rfl ?_
  refine wp_seq_k fun K11 hK11 => ?_
  refine wp_region_lit ?_
  refine seqd rfl rfl (does_box (u := (.agg #[(Iv A_a.points), (Iv A_a.values), (.slice p5 A_a.steps.length q6)])) (ev rfl)) ?_; rintro _ w16 ⟨b12, rfl, hb13, hB14, E15⟩
  have g17 : w.heap.size ≤ b12 := Nat.le_trans (Below.size (Ext.refl w)) hb13
  change Blk _ _ [(Iv A_a.points), (Iv A_a.values), (.slice p5 A_a.steps.length q6)] at hB14
  have X18 := Ext.gr (Ext.refl w) E15
  show wpList _ _ _ _ (fr [(.agg #[(Iv A_a.points), (Iv A_a.values), (.slice p5 A_a.steps.length q6)]), (.agg #[(Iv A_b.points), (Iv A_b.values), (.slice p8 A_b.steps.length q9)]), (Pt b12 0), Ud, Ud, Ud, Ud, Ud, Ud, Ud, Ud, Ud, Ud, Ud, Ud, Ud, Ud, Ud, Ud, Ud, Ud, Ud, Ud, Ud, Ud, Ud, Ud, Ud, Ud, Ud, Ud, Ud, Ud, Ud, Ud, Ud, Ud, Ud, Ud, Ud, Ud, Ud, Ud, Ud, Ud]) _
  refine seqd rfl rfl (does_box (u := (.agg #[(Iv A_b.points), (Iv A_b.values), (.slice p8 A_b.steps.length q9)])) (ev rfl)) ?_; rintro _ w23 ⟨b19, rfl, hb20, hB21, E22⟩
  have n24 : b12 < b19 := Nat.lt_of_lt_of_le (Blk.lt hB14) hb20
  have g25 : w.heap.size ≤ b19 := Nat.le_trans (Below.size X18) hb20
  change Blk _ _ [(Iv A_b.points), (Iv A_b.values), (.slice p8 A_b.steps.length q9)] at hB21
  have X26 := Ext.gr X18 E22
  show wpList _ _ _ _ (fr [(.agg #[(Iv A_a.points), (Iv A_a.values), (.slice p5 A_a.steps.length q6)]), (.agg #[(Iv A_b.points), (Iv A_b.values), (.slice p8 A_b.steps.length q9)]), (Pt b12 0), (Pt b19 0), Ud, Ud, Ud, Ud, Ud, Ud, Ud, Ud, Ud, Ud, Ud, Ud, Ud, Ud, Ud, Ud, Ud, Ud, Ud, Ud, Ud, Ud, Ud, Ud, Ud, Ud, Ud, Ud, Ud, Ud, Ud, Ud, Ud, Ud, Ud, Ud, Ud, Ud, Ud, Ud, Ud]) _
  refine q_is rfl rfl (does_assign (u := (Bo false)) (ev rfl)) (by dsimp only [List.set]; try rfl) ?_
  refine wpList_nil (hK11 _ _ ?_)
  refine wp_seq_k fun K27 hK27 => ?_
  refine wp_region_lit ?_
  refine q_is rfl rfl (does_assign (u := (Iv 1048576)) (ev rfl)) (by dsimp only [List.set]; try rfl) ?_
  refine wpList_nil (hK27 _ _ ?_)
  refine wp_seq_k fun K28 hK28 => ?_
  refine wp_region_lit ?_
  refine q_is rfl rfl (does_loadAgg (cs := [(Iv A_a.points), (Iv A_a.values), (.slice p5 A_a.steps.length q6)]) (ev rfl) Try.isAgg24 Try.sizeOf24 (Blk.cells (hB14.ext E22)) rfl) (by dsimp only [List.set]; try rfl) ?_
  refine q_is rfl rfl (does_move (u := (Iv 1048576)) (ev rfl)) (by dsimp only [List.set]; try rfl) ?_
  refine seqd rfl rfl (does_call (args := #[(.agg #[(Iv A_a.points), (Iv A_a.values), (.slice p5 A_a.steps.length q6)]), (Iv 1048576)]) cal5 (evs rfl) (c_laws_szProgram [(Iv A_a.points), (Iv A_a.values), (.slice p5 A_a.steps.length q6)] A_a 1048576 _ ⟨(.slice p5 A_a.steps.length q6), rfl, (Sl.ext hs7 RStepT.mono X26)⟩ (by omega) (by omega))) ?_; rintro _ w30 ⟨E29, ⟨i31, rfl, h32⟩⟩
  have X33 := Ext.gr X26 E29
  show wpList _ _ _ _ (fr [(.agg #[(Iv A_a.points), (Iv A_a.values), (.slice p5 A_a.steps.length q6)]), (.agg #[(Iv A_b.points), (Iv A_b.values), (.slice p8 A_b.steps.length q9)]), (Pt b12 0), (Pt b19 0), (Bo false), (Iv 1048576), Ud, Ud, Ud, Ud, (.agg #[(Iv A_a.points), (Iv A_a.values), (.slice p5 A_a.steps.length q6)]), (Iv 1048576), (Iv i31), Ud, Ud, Ud, Ud, Ud, Ud, Ud, Ud, Ud, Ud, Ud, Ud, Ud, Ud, Ud, Ud, Ud, Ud, Ud, Ud, Ud, Ud, Ud, Ud, Ud, Ud, Ud, Ud, Ud, Ud, Ud, Ud]) _
  refine q_is rfl rfl (does_assign (u := (Iv i31)) (ev rfl)) (by dsimp only [List.set]; try rfl) ?_
  refine wpList_nil (hK28 _ _ ?_)
  refine wp_seq_k fun K34 hK34 => ?_
  refine wp_seq_k fun K35 hK35 => ?_
  refine wp_region_lit ?_
  refine q_is rfl rfl (does_move (u := (Iv i31)) (ev rfl)) (by dsimp only [List.set]; try rfl) ?_
  refine q_is rfl rfl (does_icmp (p := i31) (q := 0) (.inr (.inr (.inl rfl))) (ev rfl) (ev rfl)) (by dsimp only [List.set]; try rfl) ?_
  refine wpList_nil (hK35 _ _ ?_)
  refine wp_cond_split (t := icmp .lss i31 0) (ev rfl) (fun c36 => ?_) (fun c36 => ?_)
  · have c36' := c36
    (try simp only [icmp, Bool.and_eq_true, Bool.or_eq_true, Bool.and_eq_false_iff, Bool.or_eq_false_iff, Bool.not_eq_true', Bool.not_eq_false', decide_eq_true_eq, decide_eq_false_iff_not, beq_iff_eq, bne_iff_ne, beq_eq_false_iff_ne, bne_eq_false_iff_eq] at c36')
    refine wp_seq_k fun K37 hK37 => ?_
    refine wp_region_lit ?_
    refine q_is rfl rfl (does_assign (u := (Bo true)) (ev rfl)) (by dsimp only [List.set]; try rfl) ?_
    refine wpList_nil (hK37 _ _ ?_)
    refine wp_ret ?_
    dsimp only [Exit.then, Exit.inBlock]
    refine ret_val (v := (Bo true)) (res_T rfl (slot rfl)) X33 ?_
    exact rfl
  have c36' := c36
  (try simp only [icmp, Bool.and_eq_true, Bool.or_eq_true, Bool.and_eq_false_iff, Bool.or_eq_false_iff, Bool.not_eq_true', Bool.not_eq_false', decide_eq_true_eq, decide_eq_false_iff_not, beq_iff_eq, bne_iff_ne, beq_eq_false_iff_ne, bne_eq_false_iff_eq] at c36')
  refine wp_skip (hK34 _ _ ?_)
  refine wp_seq_k fun K38 hK38 => ?_
  refine wp_region_lit ?_
  refine q_is rfl rfl (does_loadAgg (cs := [(Iv A_b.points), (Iv A_b.values), (.slice p8 A_b.steps.length q9)]) (ev rfl) Try.isAgg24 Try.sizeOf24 (Blk.cells (hB21.ext E29)) rfl) (by dsimp only [List.set]; try rfl) ?_
  refine q_is rfl rfl (does_move (u := (Iv i31)) (ev rfl)) (by dsimp only [List.set]; try rfl) ?_
  refine seqd rfl rfl (does_call (args := #[(.agg #[(Iv A_b.points), (Iv A_b.values), (.slice p8 A_b.steps.length q9)]), (Iv i31)]) cal5 (evs rfl) (c_laws_szProgram [(Iv A_b.points), (Iv A_b.values), (.slice p8 A_b.steps.length q9)] A_b i31 _ ⟨(.slice p8 A_b.steps.length q9), rfl, (Sl.ext hs10 RStepT.mono X33)⟩ (by omega) (by omega))) ?_; rintro _ w40 ⟨E39, ⟨i41, rfl, h42⟩⟩
  have X43 := Ext.gr X33 E39
  show wpList _ _ _ _ (fr [(.agg #[(Iv A_a.points), (Iv A_a.values), (.slice p5 A_a.steps.length q6)]), (.agg #[(Iv A_b.points), (Iv A_b.values), (.slice p8 A_b.steps.length q9)]), (Pt b12 0), (Pt b19 0), (Bo false), (Iv i31), Ud, Ud, Ud, Ud, (.agg #[(Iv A_a.points), (Iv A_a.values), (.slice p5 A_a.steps.length q6)]), (Iv 1048576), (Iv i31), (Iv i31), (Bo (icmp .lss i31 0)), (.agg #[(Iv A_b.points), (Iv A_b.values), (.slice p8 A_b.steps.length q9)]), (Iv i31), (Iv i41), Ud, Ud, Ud, Ud, Ud, Ud, Ud, Ud, Ud, Ud, Ud, Ud, Ud, Ud, Ud, Ud, Ud, Ud, Ud, Ud, Ud, Ud, Ud, Ud, Ud, Ud, Ud]) _
  refine q_is rfl rfl (does_assign (u := (Iv i41)) (ev rfl)) (by dsimp only [List.set]; try rfl) ?_
  refine wpList_nil (hK38 _ _ ?_)
  refine wp_seq_k fun K44 hK44 => ?_
  refine wp_seq_k fun K45 hK45 => ?_
  refine wp_region_lit ?_
  refine q_is rfl rfl (does_move (u := (Iv i41)) (ev rfl)) (by dsimp only [List.set]; try rfl) ?_
  refine q_is rfl rfl (does_icmp (p := i41) (q := 0) (.inr (.inr (.inl rfl))) (ev rfl) (ev rfl)) (by dsimp only [List.set]; try rfl) ?_
  refine wpList_nil (hK45 _ _ ?_)
  refine wp_cond_split (t := icmp .lss i41 0) (ev rfl) (fun c46 => ?_) (fun c46 => ?_)
  · have c46' := c46
    (try simp only [icmp, Bool.and_eq_true, Bool.or_eq_true, Bool.and_eq_false_iff, Bool.or_eq_false_iff, Bool.not_eq_true', Bool.not_eq_false', decide_eq_true_eq, decide_eq_false_iff_not, beq_iff_eq, bne_iff_ne, beq_eq_false_iff_ne, bne_eq_false_iff_eq] at c46')
    refine wp_seq_k fun K47 hK47 => ?_
    refine wp_region_lit ?_
    refine q_is rfl rfl (does_assign (u := (Bo true)) (ev rfl)) (by dsimp only [List.set]; try rfl) ?_
    refine wpList_nil (hK47 _ _ ?_)
    refine wp_ret ?_
    dsimp only [Exit.then, Exit.inBlock]
    refine ret_val (v := (Bo true)) (res_T rfl (slot rfl)) X43 ?_
    exact rfl
  have c46' := c46
  (try simp only [icmp, Bool.and_eq_true, Bool.or_eq_true, Bool.and_eq_false_iff, Bool.or_eq_false_iff, Bool.not_eq_true', Bool.not_eq_false', decide_eq_true_eq, decide_eq_false_iff_not, beq_iff_eq, bne_iff_ne, beq_eq_false_iff_ne, bne_eq_false_iff_eq] at c46')
  refine wp_skip (hK44 _ _ ?_)
  refine wp_seq_k fun K48 hK48 => ?_
  refine region_draw (
    [Fact.pure [] (fun v => v = (.agg #[(Iv A_a.points), (Iv A_a.values), (.slice p5 A_a.steps.length q6)])),
    Fact.mem [20] (fun v w' => ∃ cs_1 : List Value, v = (.agg cs_1.toArray) ∧ Hang w40.heap.size w' (fun u => RProgT u A_a cs_1)) (by rintro v w1 w2 hx ⟨z1, rfl, k0⟩; exact ⟨_, rfl, (k0.ext hx)⟩),
    Fact.pure [] (fun v => v = (.agg #[(Iv A_b.points), (Iv A_b.values), (.slice p8 A_b.steps.length q9)])),
    Fact.mem [22] (fun v w' => ∃ cs_1 : List Value, v = (.agg cs_1.toArray) ∧ Hang w40.heap.size w' (fun u => RProgT u A_b cs_1)) (by rintro v w1 w2 hx ⟨z1, rfl, k0⟩; exact ⟨_, rfl, (k0.ext hx)⟩),
    Fact.pure [21, 23] (fun v => v = (Bo (sProg sBits A_a A_b)))]) mixed (by kernel_rfl) (by intro _ _ d _ _ h; cases d <;> exact h) ?_
  obtain ⟨w49, hw51⟩ : ∃ w', w' = World.drew w40 := ⟨_, rfl⟩; rw [← hw51]; have E50 : Ext w40 w49 := by rw [hw51]; exact Ext.draw _
  clear hw51
  have X52 := Ext.gr X43 E50
  refine RW_d _ rfl (fun v => by dsimp only [List.set]; try rfl) (fun u hu hF => ?_) (fun v53 => ?_)
  · clear hF
    refine doesG_un rfl ?_
    refine (does_loadAgg (cs := [(Iv A_a.points), (Iv A_a.values), (.slice p5 A_a.steps.length q6)]) (ev rfl) Try.isAgg24 Try.sizeOf24 (Blk.cells (((((hB14.ext E22).ext E29).ext E39).ext E50).ext hu)) rfl).mono ?_; rintro _ _ ⟨rfl, rfl⟩
    exact ⟨rfl, Ext.refl _⟩
  refine RW_d _ rfl (fun v => by dsimp only [List.set]; try rfl) (fun u hu hF => ?_) (fun v54 => ?_)
  · have h20_ : v53 = (.agg #[(Iv A_a.points), (Iv A_a.values), (.slice p5 A_a.steps.length q6)]) := hF.1
    clear hF
    refine doesG_un rfl ?_
    obtain rfl := h20_
    refine (does_call (args := #[(.agg #[(Iv A_a.points), (Iv A_a.values), (.slice p5 A_a.steps.length q6)])]) cal7 (evs rfl) (c_laws_toProgram [(Iv A_a.points), (Iv A_a.values), (.slice p5 A_a.steps.length q6)] A_a _ ⟨(.slice p5 A_a.steps.length q6), rfl, (Sl.ext (Sl.ext hs7 RStepT.mono (Ext.gr X43 E50)) RStepT.mono hu)⟩ (by omega))).mono ?_; rintro v u' ⟨hx, ⟨csn1, hv, k0⟩⟩
    exact ⟨⟨csn1, hv, (Hang.le k0 (Nat.le_trans (Below.size E50) (Below.size hu)))⟩, hx⟩
  refine RW_d _ rfl (fun v => by dsimp only [List.set]; try rfl) (fun u hu hF => ?_) (fun v55 => ?_)
  · clear hF
    refine doesG_un rfl ?_
    refine (does_loadAgg (cs := [(Iv A_b.points), (Iv A_b.values), (.slice p8 A_b.steps.length q9)]) (ev rfl) Try.isAgg24 Try.sizeOf24 (Blk.cells ((((hB21.ext E29).ext E39).ext E50).ext hu)) rfl).mono ?_; rintro _ _ ⟨rfl, rfl⟩
    exact ⟨rfl, Ext.refl _⟩
  refine RW_d _ rfl (fun v => by dsimp only [List.set]; try rfl) (fun u hu hF => ?_) (fun v56 => ?_)
  · have h22_ : v55 = (.agg #[(Iv A_b.points), (Iv A_b.values), (.slice p8 A_b.steps.length q9)]) := hF.1
    clear hF
    refine doesG_un rfl ?_
    obtain rfl := h22_
    refine (does_call (args := #[(.agg #[(Iv A_b.points), (Iv A_b.values), (.slice p8 A_b.steps.length q9)])]) cal7 (evs rfl) (c_laws_toProgram [(Iv A_b.points), (Iv A_b.values), (.slice p8 A_b.steps.length q9)] A_b _ ⟨(.slice p8 A_b.steps.length q9), rfl, (Sl.ext (Sl.ext hs10 RStepT.mono (Ext.gr X43 E50)) RStepT.mono hu)⟩ (by omega))).mono ?_; rintro v u' ⟨hx, ⟨csn1, hv, k0⟩⟩
    exact ⟨⟨csn1, hv, (Hang.le k0 (Nat.le_trans (Below.size E50) (Below.size hu)))⟩, hx⟩
  refine RW_d _ rfl (fun v => by dsimp only [List.set]; try rfl) (fun u hu hF => ?_) (fun v57 => ?_)
  · have h21_ : ∃ cs_1 : List Value, v54 = (.agg cs_1.toArray) ∧ Hang w40.heap.size u (fun u => RProgT u A_a cs_1) := hF.1
    have h23_ : ∃ cs_1 : List Value, v56 = (.agg cs_1.toArray) ∧ Hang w40.heap.size u (fun u => RProgT u A_b cs_1) := hF.2.1
    clear hF
    refine doesG_un rfl ?_
    obtain ⟨cs21_2, rfl, hh21_1⟩ := h21_
    obtain ⟨y21_3, rfl, h21_4⟩ := hh21_1.get
    have hh21_4 := h21_4; obtain ⟨p21_5, q21_6, rfl⟩ := Sl.shape h21_4
    obtain ⟨cs23_2, rfl, hh23_1⟩ := h23_
    obtain ⟨y23_3, rfl, h23_4⟩ := hh23_1.get
    have hh23_4 := h23_4; obtain ⟨p23_5, q23_6, rfl⟩ := Sl.shape h23_4
    refine (does_call (args := #[(.agg #[(Iv A_a.points), (Iv A_a.values), (.slice p21_5 A_a.steps.length q21_6)]), (.agg #[(Iv A_b.points), (Iv A_b.values), (.slice p23_5 A_b.steps.length q23_6)])]) cal6 (evs rfl) (c_spec_SameProgram [(Iv A_a.points), (Iv A_a.values), (.slice p21_5 A_a.steps.length q21_6)] A_a [(Iv A_b.points), (Iv A_b.values), (.slice p23_5 A_b.steps.length q23_6)] A_b _ ⟨(.slice p21_5 A_a.steps.length q21_6), rfl, hh21_4⟩ ⟨(.slice p23_5 A_b.steps.length q23_6), rfl, hh23_4⟩)).mono ?_; rintro v u' ⟨hx, hv⟩
    exact ⟨hv, hx⟩
  refine RW_fin ?_; intro w58 E59 hP60
  obtain ⟨⟨⟨⟨⟨-, -⟩, -⟩, -⟩, -⟩, q61⟩ := hP60
  have X62 := Ext.gr X52 E59
  have q61 : v57 = (Bo (sProg sBits A_a A_b)) := q61
  obtain rfl := q61
  show wpList _ _ _ _ (fr [(.agg #[(Iv A_a.points), (Iv A_a.values), (.slice p5 A_a.steps.length q6)]), (.agg #[(Iv A_b.points), (Iv A_b.values), (.slice p8 A_b.steps.length q9)]), (Pt b12 0), (Pt b19 0), (Bo false), (Iv i41), Ud, Ud, Ud, Ud, (.agg #[(Iv A_a.points), (Iv A_a.values), (.slice p5 A_a.steps.length q6)]), (Iv 1048576), (Iv i31), (Iv i31), (Bo (icmp .lss i31 0)), (.agg #[(Iv A_b.points), (Iv A_b.values), (.slice p8 A_b.steps.length q9)]), (Iv i31), (Iv i41), (Iv i41), (Bo (icmp .lss i41 0)), v53, v54, v55, v56, (Bo (sProg sBits A_a A_b)), Ud, Ud, Ud, Ud, Ud, Ud, Ud, Ud, Ud, Ud, Ud, Ud, Ud, Ud, Ud, Ud, Ud, Ud, Ud, Ud]) _
  refine q_is rfl rfl (does_assign (u := (Bo (sProg sBits A_a A_b))) (ev rfl)) (by dsimp only [List.set]; try rfl) ?_
  refine wpList_nil (hK48 _ _ ?_)
  refine wp_seq_k fun K63 hK63 => ?_
  refine wp_region_lit ?_
  refine q_is rfl rfl (does_loadAgg (cs := [(Iv A_a.points), (Iv A_a.values), (.slice p5 A_a.steps.length q6)]) (ev rfl) Try.isAgg24 Try.sizeOf24 (Blk.cells (((((hB14.ext E22).ext E29).ext E39).ext E50).ext E59)) rfl) (by dsimp only [List.set]; try rfl) ?_
  refine seqd rfl rfl (does_call (args := #[(.agg #[(Iv A_a.points), (Iv A_a.values), (.slice p5 A_a.steps.length q6)])]) cal7 (evs rfl) (c_laws_toProgram [(Iv A_a.points), (Iv A_a.values), (.slice p5 A_a.steps.length q6)] A_a _ ⟨(.slice p5 A_a.steps.length q6), rfl, (Sl.ext hs7 RStepT.mono X62)⟩ (by omega))) ?_; rintro _ w65 ⟨E64, ⟨cs67, rfl, hh66⟩⟩
  have X68 := Ext.gr X62 E64
  have n69 : b12 < w58.heap.size := Blk.lt (((((hB14.ext E22).ext E29).ext E39).ext E50).ext E59)
  have n70 : b19 < w58.heap.size := Blk.lt ((((hB21.ext E29).ext E39).ext E50).ext E59)
  obtain ⟨y71, rfl, h72⟩ := hh66.get
  have h72l := Sl.len h72; obtain ⟨p73, q74, rfl⟩ := Sl.shape h72
  have hh75 : Hang w58.heap.size w65 (fun u => Sl RStepT 8 u (.slice p73 A_a.steps.length q74) A_a.steps) := fun u hu => by obtain ⟨_, hq, _⟩ := hh66 u hu; cases hq; assumption
  show wpList _ _ _ _ (fr [(.agg #[(Iv A_a.points), (Iv A_a.values), (.slice p5 A_a.steps.length q6)]), (.agg #[(Iv A_b.points), (Iv A_b.values), (.slice p8 A_b.steps.length q9)]), (Pt b12 0), (Pt b19 0), (Bo false), (Iv i41), (Bo (sProg sBits A_a A_b)), Ud, Ud, Ud, (.agg #[(Iv A_a.points), (Iv A_a.values), (.slice p5 A_a.steps.length q6)]), (Iv 1048576), (Iv i31), (Iv i31), (Bo (icmp .lss i31 0)), (.agg #[(Iv A_b.points), (Iv A_b.values), (.slice p8 A_b.steps.length q9)]), (Iv i31), (Iv i41), (Iv i41), (Bo (icmp .lss i41 0)), v53, v54, v55, v56, (Bo (sProg sBits A_a A_b)), (.agg #[(Iv A_a.points), (Iv A_a.values), (.slice p5 A_a.steps.length q6)]), (.agg #[(Iv A_a.points), (Iv A_a.values), (.slice p73 A_a.steps.length q74)]), Ud, Ud, Ud, Ud, Ud, Ud, Ud, Ud, Ud, Ud, Ud, Ud, Ud, Ud, Ud, Ud, Ud, Ud]) _
  refine seqd rfl rfl (does_alloc z29) ?_; rintro _ w80 ⟨b76, rfl, hb77, hB78, E79⟩
  have n81 : b12 < b76 := Nat.lt_of_lt_of_le (Blk.lt ((((((hB14.ext E22).ext E29).ext E39).ext E50).ext E59).ext E64)) hb77
  have n82 : b19 < b76 := Nat.lt_of_lt_of_le (Blk.lt (((((hB21.ext E29).ext E39).ext E50).ext E59).ext E64)) hb77
  have g83 : w.heap.size ≤ b76 := Nat.le_trans (Below.size X68) hb77
  change Blk _ _ [(Iv 0), (Iv 0), (.slice none 0 0)] at hB78
  have X84 := Ext.gr X68 E79
  show wpList _ _ _ _ (fr [(.agg #[(Iv A_a.points), (Iv A_a.values), (.slice p5 A_a.steps.length q6)]), (.agg #[(Iv A_b.points), (Iv A_b.values), (.slice p8 A_b.steps.length q9)]), (Pt b12 0), (Pt b19 0), (Bo false), (Iv i41), (Bo (sProg sBits A_a A_b)), (Pt b76 0), Ud, Ud, (.agg #[(Iv A_a.points), (Iv A_a.values), (.slice p5 A_a.steps.length q6)]), (Iv 1048576), (Iv i31), (Iv i31), (Bo (icmp .lss i31 0)), (.agg #[(Iv A_b.points), (Iv A_b.values), (.slice p8 A_b.steps.length q9)]), (Iv i31), (Iv i41), (Iv i41), (Bo (icmp .lss i41 0)), v53, v54, v55, v56, (Bo (sProg sBits A_a A_b)), (.agg #[(Iv A_a.points), (Iv A_a.values), (.slice p5 A_a.steps.length q6)]), (.agg #[(Iv A_a.points), (Iv A_a.values), (.slice p73 A_a.steps.length q74)]), Ud, Ud, Ud, Ud, Ud, Ud, Ud, Ud, Ud, Ud, Ud, Ud, Ud, Ud, Ud, Ud, Ud, Ud]) _
  refine seqn rfl rfl (does_store (n := 3) (cs := [(Iv 0), (Iv 0), (.slice none 0 0)]) (u := (.agg #[(Iv A_a.points), (Iv A_a.values), (.slice p73 A_a.steps.length q74)])) (ev rfl) (ev rfl) Try.sizeOf29 rfl hB78 (Nat.le_of_ble_eq_true rfl) rfl) ?_; rintro _ w87 ⟨rfl, W85, hB86⟩
  change Blk _ _ [(Iv A_a.points), (Iv A_a.values), (.slice p73 A_a.steps.length q74)] at hB86
  have X88 := Below.wr X84 W85 g83
  refine wpList_nil (hK63 _ _ ?_)
  refine wp_seq_k fun K89 hK89 => ?_
  refine wp_region_lit ?_
  refine q_is rfl rfl (does_loadAgg (cs := [(Iv A_b.points), (Iv A_b.values), (.slice p8 A_b.steps.length q9)]) (ev rfl) Try.isAgg24 Try.sizeOf24 (Blk.cells (((((((hB21.ext E29).ext E39).ext E50).ext E59).ext E64).ext E79).wr W85 (Nat.ne_of_lt n82))) rfl) (by dsimp only [List.set]; try rfl) ?_
  refine seqd rfl rfl (does_call (args := #[(.agg #[(Iv A_b.points), (Iv A_b.values), (.slice p8 A_b.steps.length q9)])]) cal7 (evs rfl) (c_laws_toProgram [(Iv A_b.points), (Iv A_b.values), (.slice p8 A_b.steps.length q9)] A_b _ ⟨(.slice p8 A_b.steps.length q9), rfl, (Sl.ext hs10 RStepT.mono X88)⟩ (by omega))) ?_; rintro _ w91 ⟨E90, ⟨cs93, rfl, hh92⟩⟩
  have X94 := Ext.gr X88 E90
  have n95 : b12 < w87.heap.size := Blk.lt ((((((((hB14.ext E22).ext E29).ext E39).ext E50).ext E59).ext E64).ext E79).wr W85 (Nat.ne_of_lt n81))
  have n96 : b19 < w87.heap.size := Blk.lt (((((((hB21.ext E29).ext E39).ext E50).ext E59).ext E64).ext E79).wr W85 (Nat.ne_of_lt n82))
  have n97 : b76 < w87.heap.size := Blk.lt hB86
  obtain ⟨y98, rfl, h99⟩ := hh92.get
  have h99l := Sl.len h99; obtain ⟨p100, q101, rfl⟩ := Sl.shape h99
  have hh102 : Hang w87.heap.size w91 (fun u => Sl RStepT 8 u (.slice p100 A_b.steps.length q101) A_b.steps) := fun u hu => by obtain ⟨_, hq, _⟩ := hh92 u hu; cases hq; assumption
  show wpList _ _ _ _ (fr [(.agg #[(Iv A_a.points), (Iv A_a.values), (.slice p5 A_a.steps.length q6)]), (.agg #[(Iv A_b.points), (Iv A_b.values), (.slice p8 A_b.steps.length q9)]), (Pt b12 0), (Pt b19 0), (Bo false), (Iv i41), (Bo (sProg sBits A_a A_b)), (Pt b76 0), Ud, Ud, (.agg #[(Iv A_a.points), (Iv A_a.values), (.slice p5 A_a.steps.length q6)]), (Iv 1048576), (Iv i31), (Iv i31), (Bo (icmp .lss i31 0)), (.agg #[(Iv A_b.points), (Iv A_b.values), (.slice p8 A_b.steps.length q9)]), (Iv i31), (Iv i41), (Iv i41), (Bo (icmp .lss i41 0)), v53, v54, v55, v56, (Bo (sProg sBits A_a A_b)), (.agg #[(Iv A_a.points), (Iv A_a.values), (.slice p5 A_a.steps.length q6)]), (.agg #[(Iv A_a.points), (Iv A_a.values), (.slice p73 A_a.steps.length q74)]), (.agg #[(Iv A_b.points), (Iv A_b.values), (.slice p8 A_b.steps.length q9)]), (.agg #[(Iv A_b.points), (Iv A_b.values), (.slice p100 A_b.steps.length q101)]), Ud, Ud, Ud, Ud, Ud, Ud, Ud, Ud, Ud, Ud, Ud, Ud, Ud, Ud, Ud, Ud]) _
  refine seqd rfl rfl (does_alloc z29) ?_; rintro _ w107 ⟨b103, rfl, hb104, hB105, E106⟩
  have n108 : b12 < b103 := Nat.lt_of_lt_of_le (Blk.lt (((((((((hB14.ext E22).ext E29).ext E39).ext E50).ext E59).ext E64).ext E79).wr W85 (Nat.ne_of_lt n81)).ext E90)) hb104
  have n109 : b19 < b103 := Nat.lt_of_lt_of_le (Blk.lt ((((((((hB21.ext E29).ext E39).ext E50).ext E59).ext E64).ext E79).wr W85 (Nat.ne_of_lt n82)).ext E90)) hb104
  have n110 : b76 < b103 := Nat.lt_of_lt_of_le (Blk.lt (hB86.ext E90)) hb104
  have g111 : w.heap.size ≤ b103 := Nat.le_trans (Below.size X94) hb104
  change Blk _ _ [(Iv 0), (Iv 0), (.slice none 0 0)] at hB105
  have X112 := Ext.gr X94 E106
  show wpList _ _ _ _ (fr [(.agg #[(Iv A_a.points), (Iv A_a.values), (.slice p5 A_a.steps.length q6)]), (.agg #[(Iv A_b.points), (Iv A_b.values), (.slice p8 A_b.steps.length q9)]), (Pt b12 0), (Pt b19 0), (Bo false), (Iv i41), (Bo (sProg sBits A_a A_b)), (Pt b76 0), (Pt b103 0), Ud, (.agg #[(Iv A_a.points), (Iv A_a.values), (.slice p5 A_a.steps.length q6)]), (Iv 1048576), (Iv i31), (Iv i31), (Bo (icmp .lss i31 0)), (.agg #[(Iv A_b.points), (Iv A_b.values), (.slice p8 A_b.steps.length q9)]), (Iv i31), (Iv i41), (Iv i41), (Bo (icmp .lss i41 0)), v53, v54, v55, v56, (Bo (sProg sBits A_a A_b)), (.agg #[(Iv A_a.points), (Iv A_a.values), (.slice p5 A_a.steps.length q6)]), (.agg #[(Iv A_a.points), (Iv A_a.values), (.slice p73 A_a.steps.length q74)]), (.agg #[(Iv A_b.points), (Iv A_b.values), (.slice p8 A_b.steps.length q9)]), (.agg #[(Iv A_b.points), (Iv A_b.values), (.slice p100 A_b.steps.length q101)]), Ud, Ud, Ud, Ud, Ud, Ud, Ud, Ud, Ud, Ud, Ud, Ud, Ud, Ud, Ud, Ud]) _
  refine seqn rfl rfl (does_store (n := 3) (cs := [(Iv 0), (Iv 0), (.slice none 0 0)]) (u := (.agg #[(Iv A_b.points), (Iv A_b.values), (.slice p100 A_b.steps.length q101)])) (ev rfl) (ev rfl) Try.sizeOf29 rfl hB105 (Nat.le_of_ble_eq_true rfl) rfl) ?_; rintro _ w115 ⟨rfl, W113, hB114⟩
  change Blk _ _ [(Iv A_b.points), (Iv A_b.values), (.slice p100 A_b.steps.length q101)] at hB114
  have X116 := Below.wr X112 W113 g111
  refine wpList_nil (hK89 _ _ ?_)
  refine wp_seq_k fun K117 hK117 => ?_
  refine wp_region_lit ?_
  refine q_is rfl rfl (does_loadAgg (cs := [(Iv A_a.points), (Iv A_a.values), (.slice p73 A_a.steps.length q74)]) (ev rfl) Try.isAgg29 Try.sizeOf29 (Blk.cells (((hB86.ext E90).ext E106).wr W113 (Nat.ne_of_lt n110))) rfl) (by dsimp only [List.set]; try rfl) ?_
  refine q_is rfl rfl (does_loadAgg (cs := [(Iv A_b.points), (Iv A_b.values), (.slice p100 A_b.steps.length q101)]) (ev rfl) Try.isAgg29 Try.sizeOf29 (Blk.cells hB114) rfl) (by dsimp only [List.set]; try rfl) ?_
  refine seqd rfl rfl (does_call (args := #[(.agg #[(Iv A_a.points), (Iv A_a.values), (.slice p73 A_a.steps.length q74)]), (.agg #[(Iv A_b.points), (Iv A_b.values), (.slice p100 A_b.steps.length q101)])]) cal8 (evs rfl) (c_impl_SameProgram [(Iv A_a.points), (Iv A_a.values), (.slice p73 A_a.steps.length q74)] A_a [(Iv A_b.points), (Iv A_b.values), (.slice p100 A_b.steps.length q101)] A_b _ ⟨(.slice p73 A_a.steps.length q74), rfl, (hh75 _ ((((((Same.refl _ _).ext E79).wr W85 (.inr (Nat.le_trans (Below.size (Ext.refl _)) hb77))).ext E90).ext E106).wr W113 (.inr (Nat.le_trans (Below.size (Ext.gr (Below.wr (Ext.gr (Ext.refl _) E79) W85 (Nat.le_trans (Below.size (Ext.refl _)) hb77)) E90)) hb104))))⟩ ⟨(.slice p100 A_b.steps.length q101), rfl, (hh102 _ (((Same.refl _ _).ext E106).wr W113 (.inr (Nat.le_trans (Below.size (Ext.refl _)) hb104))))⟩)) ?_; rintro _ w119 ⟨E118, rfl⟩
  have X120 := Ext.gr X116 E118
  show wpList _ _ _ _ (fr [(.agg #[(Iv A_a.points), (Iv A_a.values), (.slice p5 A_a.steps.length q6)]), (.agg #[(Iv A_b.points), (Iv A_b.values), (.slice p8 A_b.steps.length q9)]), (Pt b12 0), (Pt b19 0), (Bo false), (Iv i41), (Bo (sProg sBits A_a A_b)), (Pt b76 0), (Pt b103 0), Ud, (.agg #[(Iv A_a.points), (Iv A_a.values), (.slice p5 A_a.steps.length q6)]), (Iv 1048576), (Iv i31), (Iv i31), (Bo (icmp .lss i31 0)), (.agg #[(Iv A_b.points), (Iv A_b.values), (.slice p8 A_b.steps.length q9)]), (Iv i31), (Iv i41), (Iv i41), (Bo (icmp .lss i41 0)), v53, v54, v55, v56, (Bo (sProg sBits A_a A_b)), (.agg #[(Iv A_a.points), (Iv A_a.values), (.slice p5 A_a.steps.length q6)]), (.agg #[(Iv A_a.points), (Iv A_a.values), (.slice p73 A_a.steps.length q74)]), (.agg #[(Iv A_b.points), (Iv A_b.values), (.slice p8 A_b.steps.length q9)]), (.agg #[(Iv A_b.points), (Iv A_b.values), (.slice p100 A_b.steps.length q101)]), (.agg #[(Iv A_a.points), (Iv A_a.values), (.slice p73 A_a.steps.length q74)]), (.agg #[(Iv A_b.points), (Iv A_b.values), (.slice p100 A_b.steps.length q101)]), (Bo (sProg sameN A_a A_b)), Ud, Ud, Ud, Ud, Ud, Ud, Ud, Ud, Ud, Ud, Ud, Ud, Ud]) _
  refine q_is rfl rfl (does_assign (u := (Bo (sProg sameN A_a A_b))) (ev rfl)) (by dsimp only [List.set]; try rfl) ?_
  refine wpList_nil (hK117 _ _ ?_)
  refine wp_seq_k fun K121 hK121 => ?_
  refine wp_seq_k fun K122 hK122 => ?_
  refine wp_region_lit ?_
  refine q_is rfl rfl (does_move (u := (Bo (sProg sameN A_a A_b))) (ev rfl)) (by dsimp only [List.set]; try rfl) ?_
  refine q_is rfl rfl (does_move (u := (Bo (sProg sBits A_a A_b))) (ev rfl)) (by dsimp only [List.set]; try rfl) ?_
  refine q_is rfl rfl (does_bne (p := (sProg sameN A_a A_b)) (q := (sProg sBits A_a A_b)) Try.underlying4 (ev rfl) (ev rfl)) (by dsimp only [List.set]; try rfl) ?_
  refine wpList_nil (hK122 _ _ ?_)
  refine wp_cond_split (t := (sProg sameN A_a A_b) != (sProg sBits A_a A_b)) (ev rfl) (fun c123 => ?_) (fun c123 => ?_)
  · have c123' := c123
    refine wp_seq_k fun K124 hK124 => ?_
    refine wp_region_lit ?_
    refine q_is rfl rfl (does_assign (u := (Bo false)) (ev rfl)) (by dsimp only [List.set]; try rfl) ?_
    refine wpList_nil (hK124 _ _ ?_)
    refine wp_ret ?_
    dsimp only [Exit.then, Exit.inBlock]
    refine ret_val (v := (Bo false)) (res_T rfl (slot rfl)) X120 ?_
    have x125 : true = false := by first | with_reducible rfl | (simp only [hsb, samePr_self, bne_self_eq_false, c36, c46, c123]; done) | (simp [hsb, samePr_self, bne_self_eq_false, c36, c46, c123]; done) | (revert c36 c46 c123; simp +contextual [hsb, samePr_self, bne_self_eq_false]; done) | (rcases c36' with hh | hh <;> simp only [hh, hsb, samePr_self, bne_self_eq_false, c36, c46, c123]; done) | (rcases c46' with hh | hh <;> simp only [hh, hsb, samePr_self, bne_self_eq_false, c36, c46, c123]; done) | (rcases c123' with hh | hh <;> simp only [hh, hsb, samePr_self, bne_self_eq_false, c36, c46, c123]; done) | (rcases c123' with hh | hh <;> simp_all [hsb, samePr_self, bne_self_eq_false]; done) | (rcases c123' with hh | hh | hh <;> simp_all [hsb, samePr_self, bne_self_eq_false]; done) | (rcases c123' with hh | hh | hh | hh <;> simp_all [hsb, samePr_self, bne_self_eq_false]; done) | (simp_all [hsb, samePr_self, bne_self_eq_false]; done) | rfl
    exact (by first | rfl | rw [x125])
  have c123' := c123
  refine wp_skip (hK121 _ _ ?_)
  refine wp_seq_k fun K126 hK126 => ?_
  refine wp_seq_k fun K127 hK127 => ?_
  refine region_draw (
    [Fact.pure [] (fun v => v = (.agg #[(Iv A_a.points), (Iv A_a.values), (.slice p73 A_a.steps.length q74)])),
    Fact.pure [] (fun v => v = (.agg #[(Iv A_a.points), (Iv A_a.values), (.slice p5 A_a.steps.length q6)])),
    Fact.mem [36] (fun v w' => ∃ cs_1 : List Value, v = (.agg cs_1.toArray) ∧ Hang w119.heap.size w' (fun u => RProgT u A_a cs_1)) (by rintro v w1 w2 hx ⟨z1, rfl, k0⟩; exact ⟨_, rfl, (k0.ext hx)⟩),
    Fact.pure [35, 37] (fun v => v = (Bo (samePr A_a A_a))),
    Fact.pure [38] (fun v => v = (Bo (!(samePr A_a A_a))))]) mixed (by kernel_rfl) (by intro _ _ d _ _ h; cases d <;> exact h) ?_
  obtain ⟨w128, hw130⟩ : ∃ w', w' = World.drew w119 := ⟨_, rfl⟩; rw [← hw130]; have E129 : Ext w119 w128 := by rw [hw130]; exact Ext.draw _
  clear hw130
  have X131 := Ext.gr X120 E129
  refine RW_d _ rfl (fun v => by dsimp only [List.set]; try rfl) (fun u hu hF => ?_) (fun v132 => ?_)
  · clear hF
    refine doesG_un rfl ?_
    refine (does_loadAgg (cs := [(Iv A_a.points), (Iv A_a.values), (.slice p73 A_a.steps.length q74)]) (ev rfl) Try.isAgg29 Try.sizeOf29 (Blk.cells ((((((hB86.ext E90).ext E106).wr W113 (Nat.ne_of_lt n110)).ext E118).ext E129).ext hu)) rfl).mono ?_; rintro _ _ ⟨rfl, rfl⟩
    exact ⟨rfl, Ext.refl _⟩
  refine RW_d _ rfl (fun v => by dsimp only [List.set]; try rfl) (fun u hu hF => ?_) (fun v133 => ?_)
  · clear hF
    refine doesG_un rfl ?_
    refine (does_loadAgg (cs := [(Iv A_a.points), (Iv A_a.values), (.slice p5 A_a.steps.length q6)]) (ev rfl) Try.isAgg24 Try.sizeOf24 (Blk.cells ((((((((((((((hB14.ext E22).ext E29).ext E39).ext E50).ext E59).ext E64).ext E79).wr W85 (Nat.ne_of_lt n81)).ext E90).ext E106).wr W113 (Nat.ne_of_lt n108)).ext E118).ext E129).ext hu)) rfl).mono ?_; rintro _ _ ⟨rfl, rfl⟩
    exact ⟨rfl, Ext.refl _⟩
  refine RW_d _ rfl (fun v => by dsimp only [List.set]; try rfl) (fun u hu hF => ?_) (fun v134 => ?_)
  · have h36_ : v133 = (.agg #[(Iv A_a.points), (Iv A_a.values), (.slice p5 A_a.steps.length q6)]) := hF.1
    clear hF
    refine doesG_un rfl ?_
    obtain rfl := h36_
    refine (does_call (args := #[(.agg #[(Iv A_a.points), (Iv A_a.values), (.slice p5 A_a.steps.length q6)])]) cal7 (evs rfl) (c_laws_toProgram [(Iv A_a.points), (Iv A_a.values), (.slice p5 A_a.steps.length q6)] A_a _ ⟨(.slice p5 A_a.steps.length q6), rfl, (Sl.ext (Sl.ext hs7 RStepT.mono (Ext.gr X120 E129)) RStepT.mono hu)⟩ (by omega))).mono ?_; rintro v u' ⟨hx, ⟨csn1, hv, k0⟩⟩
    exact ⟨⟨csn1, hv, (Hang.le k0 (Nat.le_trans (Below.size E129) (Below.size hu)))⟩, hx⟩
  refine RW_d _ rfl (fun v => by dsimp only [List.set]; try rfl) (fun u hu hF => ?_) (fun v135 => ?_)
  · have h35_ : v132 = (.agg #[(Iv A_a.points), (Iv A_a.values), (.slice p73 A_a.steps.length q74)]) := hF.1
    have h37_ : ∃ cs_1 : List Value, v134 = (.agg cs_1.toArray) ∧ Hang w119.heap.size u (fun u => RProgT u A_a cs_1) := hF.2.1
    clear hF
    refine doesG_un rfl ?_
    obtain rfl := h35_
    obtain ⟨cs37_2, rfl, hh37_1⟩ := h37_
    obtain ⟨y37_3, rfl, h37_4⟩ := hh37_1.get
    have hh37_4 := h37_4; obtain ⟨p37_5, q37_6, rfl⟩ := Sl.shape h37_4
    refine (does_call (args := #[(.agg #[(Iv A_a.points), (Iv A_a.values), (.slice p73 A_a.steps.length q74)]), (.agg #[(Iv A_a.points), (Iv A_a.values), (.slice p37_5 A_a.steps.length q37_6)])]) cal9 (evs rfl) (c_laws_eqProgram [(Iv A_a.points), (Iv A_a.values), (.slice p73 A_a.steps.length q74)] A_a [(Iv A_a.points), (Iv A_a.values), (.slice p37_5 A_a.steps.length q37_6)] A_a _ ⟨(.slice p73 A_a.steps.length q74), rfl, (Sl.ext (hh75 _ ((((((((Same.refl _ _).ext E79).wr W85 (.inr (Nat.le_trans (Below.size (Ext.refl _)) hb77))).ext E90).ext E106).wr W113 (.inr (Nat.le_trans (Below.size (Ext.gr (Below.wr (Ext.gr (Ext.refl _) E79) W85 (Nat.le_trans (Below.size (Ext.refl _)) hb77)) E90)) hb104))).ext E118).ext E129)) RStepT.mono hu)⟩ ⟨(.slice p37_5 A_a.steps.length q37_6), rfl, hh37_4⟩)).mono ?_; rintro v u' ⟨hx, hv⟩
    exact ⟨hv, hx⟩
  refine RW_d _ rfl (fun v => by dsimp only [List.set]; try rfl) (fun u hu hF => ?_) (fun v136 => ?_)
  · have h38_ : v135 = (Bo (samePr A_a A_a)) := hF.1
    clear hF
    refine doesG_un rfl ?_
    obtain rfl := h38_
    refine (does_not (ev rfl)).mono ?_; rintro _ _ ⟨rfl, rfl⟩
    exact ⟨rfl, Ext.refl _⟩
  refine RW_fin ?_; intro w137 E138 hP139
  obtain ⟨⟨⟨⟨⟨-, -⟩, -⟩, -⟩, -⟩, q140⟩ := hP139
  have X141 := Ext.gr X131 E138
  have q140 : v136 = (Bo (!(samePr A_a A_a))) := q140
  obtain rfl := q140
  show wpList _ _ _ _ (fr [(.agg #[(Iv A_a.points), (Iv A_a.values), (.slice p5 A_a.steps.length q6)]), (.agg #[(Iv A_b.points), (Iv A_b.values), (.slice p8 A_b.steps.length q9)]), (Pt b12 0), (Pt b19 0), (Bo false), (Iv i41), (Bo (sProg sBits A_a A_b)), (Pt b76 0), (Pt b103 0), (Bo (sProg sameN A_a A_b)), (.agg #[(Iv A_a.points), (Iv A_a.values), (.slice p5 A_a.steps.length q6)]), (Iv 1048576), (Iv i31), (Iv i31), (Bo (icmp .lss i31 0)), (.agg #[(Iv A_b.points), (Iv A_b.values), (.slice p8 A_b.steps.length q9)]), (Iv i31), (Iv i41), (Iv i41), (Bo (icmp .lss i41 0)), v53, v54, v55, v56, (Bo (sProg sBits A_a A_b)), (.agg #[(Iv A_a.points), (Iv A_a.values), (.slice p5 A_a.steps.length q6)]), (.agg #[(Iv A_a.points), (Iv A_a.values), (.slice p73 A_a.steps.length q74)]), (.agg #[(Iv A_b.points), (Iv A_b.values), (.slice p8 A_b.steps.length q9)]), (.agg #[(Iv A_b.points), (Iv A_b.values), (.slice p100 A_b.steps.length q101)]), (.agg #[(Iv A_a.points), (Iv A_a.values), (.slice p73 A_a.steps.length q74)]), (.agg #[(Iv A_b.points), (Iv A_b.values), (.slice p100 A_b.steps.length q101)]), (Bo (sProg sameN A_a A_b)), (Bo (sProg sameN A_a A_b)), (Bo (sProg sBits A_a A_b)), (Bo ((sProg sameN A_a A_b) != (sProg sBits A_a A_b))), v132, v133, v134, v135, (Bo (!(samePr A_a A_a))), Ud, Ud, Ud, Ud, Ud]) _
  refine wpList_nil (hK127 _ _ ?_)
  refine wp_cond_split (t := !(samePr A_a A_a)) (ev rfl) (fun c142 => ?_) (fun c142 => ?_)
  · rw [Bool.not_eq_true'] at c142
    have c142' := c142
    refine wp_seq_k fun K143 hK143 => ?_
    refine wp_region_lit ?_
    refine q_is rfl rfl (does_assign (u := (Bo false)) (ev rfl)) (by dsimp only [List.set]; try rfl) ?_
    refine wpList_nil (hK143 _ _ ?_)
    refine wp_ret ?_
    dsimp only [Exit.then, Exit.inBlock]
    refine ret_val (v := (Bo false)) (res_T rfl (slot rfl)) X141 ?_
    have x144 : true = false := by first | with_reducible rfl | (simp only [hsb, samePr_self, bne_self_eq_false, c36, c46, c123, c142]; done) | (simp [hsb, samePr_self, bne_self_eq_false, c36, c46, c123, c142]; done) | (revert c36 c46 c123 c142; simp +contextual [hsb, samePr_self, bne_self_eq_false]; done) | (rcases c36' with hh | hh <;> simp only [hh, hsb, samePr_self, bne_self_eq_false, c36, c46, c123, c142]; done) | (rcases c46' with hh | hh <;> simp only [hh, hsb, samePr_self, bne_self_eq_false, c36, c46, c123, c142]; done) | (rcases c123' with hh | hh <;> simp only [hh, hsb, samePr_self, bne_self_eq_false, c36, c46, c123, c142]; done) | (rcases c142' with hh | hh <;> simp only [hh, hsb, samePr_self, bne_self_eq_false, c36, c46, c123, c142]; done) | (rcases c142' with hh | hh <;> simp_all [hsb, samePr_self, bne_self_eq_false]; done) | (rcases c142' with hh | hh | hh <;> simp_all [hsb, samePr_self, bne_self_eq_false]; done) | (rcases c142' with hh | hh | hh | hh <;> simp_all [hsb, samePr_self, bne_self_eq_false]; done) | (simp_all [hsb, samePr_self, bne_self_eq_false]; done) | rfl
    exact (by first | rfl | rw [x144])
  rw [Bool.not_eq_false'] at c142
  have c142' := c142
  refine wp_skip (hK126 _ _ ?_)
  refine wp_seq_k fun K145 hK145 => ?_
  refine wp_seq_k fun K146 hK146 => ?_
  refine region_draw (
    [Fact.pure [] (fun v => v = (.agg #[(Iv A_b.points), (Iv A_b.values), (.slice p100 A_b.steps.length q101)])),
    Fact.pure [] (fun v => v = (.agg #[(Iv A_b.points), (Iv A_b.values), (.slice p8 A_b.steps.length q9)])),
    Fact.mem [41] (fun v w' => ∃ cs_1 : List Value, v = (.agg cs_1.toArray) ∧ Hang w137.heap.size w' (fun u => RProgT u A_b cs_1)) (by rintro v w1 w2 hx ⟨z1, rfl, k0⟩; exact ⟨_, rfl, (k0.ext hx)⟩),
    Fact.pure [40, 42] (fun v => v = (Bo (samePr A_b A_b))),
    Fact.pure [43] (fun v => v = (Bo (!(samePr A_b A_b))))]) mixed (by kernel_rfl) (by intro _ _ d _ _ h; cases d <;> exact h) ?_
  obtain ⟨w147, hw149⟩ : ∃ w', w' = World.drew w137 := ⟨_, rfl⟩; rw [← hw149]; have E148 : Ext w137 w147 := by rw [hw149]; exact Ext.draw _
  clear hw149
  have X150 := Ext.gr X141 E148
  refine RW_d _ rfl (fun v => by dsimp only [List.set]; try rfl) (fun u hu hF => ?_) (fun v151 => ?_)
  · clear hF
    refine doesG_un rfl ?_
    refine (does_loadAgg (cs := [(Iv A_b.points), (Iv A_b.values), (.slice p100 A_b.steps.length q101)]) (ev rfl) Try.isAgg29 Try.sizeOf29 (Blk.cells (((((hB114.ext E118).ext E129).ext E138).ext E148).ext hu)) rfl).mono ?_; rintro _ _ ⟨rfl, rfl⟩
    exact ⟨rfl, Ext.refl _⟩
  refine RW_d _ rfl (fun v => by dsimp only [List.set]; try rfl) (fun u hu hF => ?_) (fun v152 => ?_)
  · clear hF
    refine doesG_un rfl ?_
    refine (does_loadAgg (cs := [(Iv A_b.points), (Iv A_b.values), (.slice p8 A_b.steps.length q9)]) (ev rfl) Try.isAgg24 Try.sizeOf24 (Blk.cells (((((((((((((((hB21.ext E29).ext E39).ext E50).ext E59).ext E64).ext E79).wr W85 (Nat.ne_of_lt n82)).ext E90).ext E106).wr W113 (Nat.ne_of_lt n109)).ext E118).ext E129).ext E138).ext E148).ext hu)) rfl).mono ?_; rintro _ _ ⟨rfl, rfl⟩
    exact ⟨rfl, Ext.refl _⟩
  refine RW_d _ rfl (fun v => by dsimp only [List.set]; try rfl) (fun u hu hF => ?_) (fun v153 => ?_)
  · have h41_ : v152 = (.agg #[(Iv A_b.points), (Iv A_b.values), (.slice p8 A_b.steps.length q9)]) := hF.1
    clear hF
    refine doesG_un rfl ?_
    obtain rfl := h41_
    refine (does_call (args := #[(.agg #[(Iv A_b.points), (Iv A_b.values), (.slice p8 A_b.steps.length q9)])]) cal7 (evs rfl) (c_laws_toProgram [(Iv A_b.points), (Iv A_b.values), (.slice p8 A_b.steps.length q9)] A_b _ ⟨(.slice p8 A_b.steps.length q9), rfl, (Sl.ext (Sl.ext hs10 RStepT.mono (Ext.gr X141 E148)) RStepT.mono hu)⟩ (by omega))).mono ?_; rintro v u' ⟨hx, ⟨csn1, hv, k0⟩⟩
    exact ⟨⟨csn1, hv, (Hang.le k0 (Nat.le_trans (Below.size E148) (Below.size hu)))⟩, hx⟩
  refine RW_d _ rfl (fun v => by dsimp only [List.set]; try rfl) (fun u hu hF => ?_) (fun v154 => ?_)
  · have h40_ : v151 = (.agg #[(Iv A_b.points), (Iv A_b.values), (.slice p100 A_b.steps.length q101)]) := hF.1
    have h42_ : ∃ cs_1 : List Value, v153 = (.agg cs_1.toArray) ∧ Hang w137.heap.size u (fun u => RProgT u A_b cs_1) := hF.2.1
    clear hF
    refine doesG_un rfl ?_
    obtain rfl := h40_
    obtain ⟨cs42_2, rfl, hh42_1⟩ := h42_
    obtain ⟨y42_3, rfl, h42_4⟩ := hh42_1.get
    have hh42_4 := h42_4; obtain ⟨p42_5, q42_6, rfl⟩ := Sl.shape h42_4
    refine (does_call (args := #[(.agg #[(Iv A_b.points), (Iv A_b.values), (.slice p100 A_b.steps.length q101)]), (.agg #[(Iv A_b.points), (Iv A_b.values), (.slice p42_5 A_b.steps.length q42_6)])]) cal9 (evs rfl) (c_laws_eqProgram [(Iv A_b.points), (Iv A_b.values), (.slice p100 A_b.steps.length q101)] A_b [(Iv A_b.points), (Iv A_b.values), (.slice p42_5 A_b.steps.length q42_6)] A_b _ ⟨(.slice p100 A_b.steps.length q101), rfl, (Sl.ext (hh102 _ (((((((Same.refl _ _).ext E106).wr W113 (.inr (Nat.le_trans (Below.size (Ext.refl _)) hb104))).ext E118).ext E129).ext E138).ext E148)) RStepT.mono hu)⟩ ⟨(.slice p42_5 A_b.steps.length q42_6), rfl, hh42_4⟩)).mono ?_; rintro v u' ⟨hx, hv⟩
    exact ⟨hv, hx⟩
  refine RW_d _ rfl (fun v => by dsimp only [List.set]; try rfl) (fun u hu hF => ?_) (fun v155 => ?_)
  · have h43_ : v154 = (Bo (samePr A_b A_b)) := hF.1
    clear hF
    refine doesG_un rfl ?_
    obtain rfl := h43_
    refine (does_not (ev rfl)).mono ?_; rintro _ _ ⟨rfl, rfl⟩
    exact ⟨rfl, Ext.refl _⟩
  refine RW_fin ?_; intro w156 E157 hP158
  obtain ⟨⟨⟨⟨⟨-, -⟩, -⟩, -⟩, -⟩, q159⟩ := hP158
  have X160 := Ext.gr X150 E157
  have q159 : v155 = (Bo (!(samePr A_b A_b))) := q159
  obtain rfl := q159
  show wpList _ _ _ _ (fr [(.agg #[(Iv A_a.points), (Iv A_a.values), (.slice p5 A_a.steps.length q6)]), (.agg #[(Iv A_b.points), (Iv A_b.values), (.slice p8 A_b.steps.length q9)]), (Pt b12 0), (Pt b19 0), (Bo false), (Iv i41), (Bo (sProg sBits A_a A_b)), (Pt b76 0), (Pt b103 0), (Bo (sProg sameN A_a A_b)), (.agg #[(Iv A_a.points), (Iv A_a.values), (.slice p5 A_a.steps.length q6)]), (Iv 1048576), (Iv i31), (Iv i31), (Bo (icmp .lss i31 0)), (.agg #[(Iv A_b.points), (Iv A_b.values), (.slice p8 A_b.steps.length q9)]), (Iv i31), (Iv i41), (Iv i41), (Bo (icmp .lss i41 0)), v53, v54, v55, v56, (Bo (sProg sBits A_a A_b)), (.agg #[(Iv A_a.points), (Iv A_a.values), (.slice p5 A_a.steps.length q6)]), (.agg #[(Iv A_a.points), (Iv A_a.values), (.slice p73 A_a.steps.length q74)]), (.agg #[(Iv A_b.points), (Iv A_b.values), (.slice p8 A_b.steps.length q9)]), (.agg #[(Iv A_b.points), (Iv A_b.values), (.slice p100 A_b.steps.length q101)]), (.agg #[(Iv A_a.points), (Iv A_a.values), (.slice p73 A_a.steps.length q74)]), (.agg #[(Iv A_b.points), (Iv A_b.values), (.slice p100 A_b.steps.length q101)]), (Bo (sProg sameN A_a A_b)), (Bo (sProg sameN A_a A_b)), (Bo (sProg sBits A_a A_b)), (Bo ((sProg sameN A_a A_b) != (sProg sBits A_a A_b))), v132, v133, v134, v135, (Bo (!(samePr A_a A_a))), v151, v152, v153, v154, (Bo (!(samePr A_b A_b)))]) _
  refine wpList_nil (hK146 _ _ ?_)
  refine wp_cond_split (t := !(samePr A_b A_b)) (ev rfl) (fun c161 => ?_) (fun c161 => ?_)
  · rw [Bool.not_eq_true'] at c161
    have c161' := c161
    refine wp_seq_k fun K162 hK162 => ?_
    refine wp_region_lit ?_
    refine q_is rfl rfl (does_assign (u := (Bo false)) (ev rfl)) (by dsimp only [List.set]; try rfl) ?_
    refine wpList_nil (hK162 _ _ ?_)
    refine wp_ret ?_
    dsimp only [Exit.then, Exit.inBlock]
    refine ret_val (v := (Bo false)) (res_T rfl (slot rfl)) X160 ?_
    have x163 : true = false := by first | with_reducible rfl | (simp only [hsb, samePr_self, bne_self_eq_false, c36, c46, c123, c142, c161]; done) | (simp [hsb, samePr_self, bne_self_eq_false, c36, c46, c123, c142, c161]; done) | (revert c36 c46 c123 c142 c161; simp +contextual [hsb, samePr_self, bne_self_eq_false]; done) | (rcases c36' with hh | hh <;> simp only [hh, hsb, samePr_self, bne_self_eq_false, c36, c46, c123, c142, c161]; done) | (rcases c46' with hh | hh <;> simp only [hh, hsb, samePr_self, bne_self_eq_false, c36, c46, c123, c142, c161]; done) | (rcases c123' with hh | hh <;> simp only [hh, hsb, samePr_self, bne_self_eq_false, c36, c46, c123, c142, c161]; done) | (rcases c142' with hh | hh <;> simp only [hh, hsb, samePr_self, bne_self_eq_false, c36, c46, c123, c142, c161]; done) | (rcases c161' with hh | hh <;> simp only [hh, hsb, samePr_self, bne_self_eq_false, c36, c46, c123, c142, c161]; done) | (rcases c161' with hh | hh <;> simp_all [hsb, samePr_self, bne_self_eq_false]; done) | (rcases c161' with hh | hh | hh <;> simp_all [hsb, samePr_self, bne_self_eq_false]; done) | (rcases c161' with hh | hh | hh | hh <;> simp_all [hsb, samePr_self, bne_self_eq_false]; done) | (simp_all [hsb, samePr_self, bne_self_eq_false]; done) | rfl
    exact (by first | rfl | rw [x163])
  rw [Bool.not_eq_false'] at c161
  have c161' := c161
  refine wp_skip (hK145 _ _ ?_)
  refine wp_seq_k fun K164 hK164 => ?_
  refine wp_region_lit ?_
  refine q_is rfl rfl (does_assign (u := (Bo true)) (ev rfl)) (by dsimp only [List.set]; try rfl) ?_
  refine wpList_nil (hK164 _ _ ?_)
  refine wp_ret ?_
  refine ret_val (v := (Bo true)) (res_T rfl (slot rfl)) X160 ?_
  exact rfl

end Go.Proofs.Ytodelpmhbdaocaa
