/- contracts of functions, each walked once -/
import Derived.Test.YtlpgjgombdcheaaK4
namespace Go.Proofs.Ytlpgjgombdcheaa
open Go Go.RowKit
set_option maxRecDepth 100000
set_option maxHeartbeats 3200000
set_option linter.unusedVariables false
set_option linter.unusedSimpArgs false

set_option maxHeartbeats 20000000 in
/- impl.SlopeBetween -/
theorem c_impl_SlopeBetween (g : List Value) (A_g : GridT) (p : List Value) (A_p : V3) (w : World) (hv_g : RGridT w A_g g) (hv_p : RV3 w A_p p) : Gives Try.prog 13 #[(.agg g.toArray), (.agg p.toArray)] w (fun v w' => ∃ cs_1 : List Value, v = (.tuple #[(.agg cs_1.toArray), (Bo (slpOk A_g A_p))]) ∧ RV3 w (slpV A_g A_p) cs_1) := by
  obtain ⟨r1, r3, r5, r7, y9, rfl, h2, h4, h6, h8, h10⟩ := hv_g
  obtain ⟨r11, r13, r15, rfl, h12, h14, h16⟩ := hv_p
  have hs19 := h10; have hs19l := Sl.len h10; obtain ⟨p17, q18, rfl⟩ := Sl.shape h10
  refine enter [(.agg #[(Fl r1), (Fl r3), (Fl r5), (Fl r7), (Iv A_g.x), (Iv A_g.y), (Iv A_g.z), (.slice p17 A_g.vals.length q18)]), (.agg #[(Fl r11), (Fl r13), (Fl r15)]), Ud, Ud, Ud, Ud, Ud, Ud, Ud, Ud, Ud, Ud, Ud, Ud, Ud, Ud, Ud, Ud, Ud, Ud, Ud, Ud, Ud, Ud, Ud, Ud, Ud, Ud, Ud, Ud, Ud, Ud, Ud, Ud, Ud, Ud, Ud, Ud, Ud, Ud, Ud, Ud, Ud, Ud, Ud, Ud, Ud, Ud, Ud, Ud, Ud, Ud, Ud, Ud, Ud, Ud, Ud, Ud, Ud, Ud, Ud, Ud, Ud, Ud, Ud, Ud, Ud, Ud, Ud, Ud, Ud, Ud, Ud, Ud, Ud, Ud, Ud, Ud, Ud, Ud, Ud, Ud, Ud, Ud, Ud, Ud, Ud, Ud, Ud, Ud] Try.func13 rfl Try.ntmps13 rfl ?_
  refine wp_seq_k fun K20 hK20 => ?_
  refine wp_region_lit ?_
  refine seqd rfl rfl (does_box (u := (.agg #[(Fl r1), (Fl r3), (Fl r5), (Fl r7), (Iv A_g.x), (Iv A_g.y), (Iv A_g.z), (.slice p17 A_g.vals.length q18)])) (ev rfl)) ?_; rintro _ w25 ⟨b21, rfl, hb22, hB23, E24⟩
  have g26 : w.heap.size ≤ b21 := Nat.le_trans (Below.size (Ext.refl w)) hb22
  change Blk _ _ [(Fl r1), (Fl r3), (Fl r5), (Fl r7), (Iv A_g.x), (Iv A_g.y), (Iv A_g.z), (.slice p17 A_g.vals.length q18)] at hB23
  have X27 := Ext.gr (Ext.refl w) E24
  show wpList _ _ _ _ (fr [_, _, _, _, _, _, _, _, _, _, _, _, _, _, _, _, _, _, _, _, _, _, _, _, _, _, _, _, _, _, _, _, _, _, _, _, _, _, _, _, _, _, _, _, _, _, _, _, _, _, _, _, _, _, _, _, _, _, _, _, _, _, _, _, _, _, _, _, _, _, _, _, _, _, _, _, _, _, _, _, _, _, _, _, _, _, _, _, _, _]) _
  refine seqd rfl rfl (does_box (u := (.agg #[(Fl r11), (Fl r13), (Fl r15)])) (ev rfl)) ?_; rintro _ w32 ⟨b28, rfl, hb29, hB30, E31⟩
  have n33 : b21 < b28 := Nat.lt_of_lt_of_le (Blk.lt hB23) hb29
  have g34 : w.heap.size ≤ b28 := Nat.le_trans (Below.size X27) hb29
  change Blk _ _ [(Fl r11), (Fl r13), (Fl r15)] at hB30
  have X35 := Ext.gr X27 E31
  show wpList _ _ _ _ (fr [_, _, _, _, _, _, _, _, _, _, _, _, _, _, _, _, _, _, _, _, _, _, _, _, _, _, _, _, _, _, _, _, _, _, _, _, _, _, _, _, _, _, _, _, _, _, _, _, _, _, _, _, _, _, _, _, _, _, _, _, _, _, _, _, _, _, _, _, _, _, _, _, _, _, _, _, _, _, _, _, _, _, _, _, _, _, _, _, _, _]) _
  refine seqd rfl rfl (does_alloc z31) ?_; rintro _ w40 ⟨b36, rfl, hb37, hB38, E39⟩
  have n41 : b21 < b36 := Nat.lt_of_lt_of_le (Blk.lt (hB23.ext E31)) hb37
  have n42 : b28 < b36 := Nat.lt_of_lt_of_le (Blk.lt hB30) hb37
  have g43 : w.heap.size ≤ b36 := Nat.le_trans (Below.size X35) hb37
  change Blk _ _ [(Fl 0), (Fl 0), (Fl 0)] at hB38
  have X44 := Ext.gr X35 E39
  show wpList _ _ _ _ (fr [_, _, _, _, _, _, _, _, _, _, _, _, _, _, _, _, _, _, _, _, _, _, _, _, _, _, _, _, _, _, _, _, _, _, _, _, _, _, _, _, _, _, _, _, _, _, _, _, _, _, _, _, _, _, _, _, _, _, _, _, _, _, _, _, _, _, _, _, _, _, _, _, _, _, _, _, _, _, _, _, _, _, _, _, _, _, _, _, _, _]) _
  refine q_is rfl rfl (does_assign (u := (Bo false)) (ev rfl)) (by dsimp only [List.set]; try rfl) ?_
  refine wpList_nil (hK20 _ _ ?_)
  refine wp_seq_k fun K45 hK45 => ?_
  refine wp_seq_k fun K46 hK46 => ?_
  obtain ⟨β1, hβ1⟩ : ∃ b : Bool, b = ((!(isGrid A_g)) || (!(finV A_p))) := ⟨_, rfl⟩
  refine region_text (
    [Fact.pure [] (fun v => v = (.agg #[(Fl r1), (Fl r3), (Fl r5), (Fl r7), (Iv A_g.x), (Iv A_g.y), (Iv A_g.z), (.slice p17 A_g.vals.length q18)])),
    Fact.pure [16] (fun v => v = (Bo (isGrid A_g))),
    Fact.pure [17] (fun v => v = (Bo (!(isGrid A_g)))),
    Fact.pure [18] (fun v => v = (Bo (!(isGrid A_g)))),
    Fact.pure [19] (fun v => (!(isGrid A_g)) = false → v = (.agg #[(Fl r11), (Fl r13), (Fl r15)])),
    Fact.pure [20, 19] (fun v => (!(isGrid A_g)) = false → v = (Bo (finV A_p))),
    Fact.pure [21, 19] (fun v => (!(isGrid A_g)) = false → v = (Bo (!(finV A_p)))),
    Fact.pure [19, 22] (fun v => v = (Bo β1))]) (by simp [Fact.pure, Fact.mem]) ?_
  refine RW_d _ rfl (fun v => by dsimp only [List.set]; try rfl) (fun u hu hF => ?_) (fun v47 => ?_)
  · clear hF
    refine doesG_un rfl ?_
    refine (does_loadAgg (cs := [(Fl r1), (Fl r3), (Fl r5), (Fl r7), (Iv A_g.x), (Iv A_g.y), (Iv A_g.z), (.slice p17 A_g.vals.length q18)]) (ev rfl) Try.isAgg33 Try.sizeOf33 (Blk.cells (((hB23.ext E31).ext E39).ext hu)) rfl).mono ?_; rintro _ _ ⟨rfl, rfl⟩
    exact ⟨rfl, Ext.refl _⟩
  refine RW_d _ rfl (fun v => by dsimp only [List.set]; try rfl) (fun u hu hF => ?_) (fun v48 => ?_)
  · have h16_ : v47 = (.agg #[(Fl r1), (Fl r3), (Fl r5), (Fl r7), (Iv A_g.x), (Iv A_g.y), (Iv A_g.z), (.slice p17 A_g.vals.length q18)]) := hF.1
    clear hF
    refine doesG_un rfl ?_
    obtain rfl := h16_
    refine (does_call (args := #[(.agg #[(Fl r1), (Fl r3), (Fl r5), (Fl r7), (Iv A_g.x), (Iv A_g.y), (Iv A_g.z), (.slice p17 A_g.vals.length q18)])]) cal20 (evs rfl) (c_impl_ValidGrid [(Fl r1), (Fl r3), (Fl r5), (Fl r7), (Iv A_g.x), (Iv A_g.y), (Iv A_g.z), (.slice p17 A_g.vals.length q18)] A_g _ ⟨r1, r3, r5, r7, (.slice p17 A_g.vals.length q18), rfl, h2, h4, h6, h8, (Sl.ext (Sl.ext hs19 RF.mono X44) RF.mono hu)⟩)).mono ?_; rintro v u' ⟨hx, hv⟩
    exact ⟨hv, hx⟩
  refine RW_d _ rfl (fun v => by dsimp only [List.set]; try rfl) (fun u hu hF => ?_) (fun v49 => ?_)
  · have h17_ : v48 = (Bo (isGrid A_g)) := hF.1
    clear hF
    refine doesG_un rfl ?_
    obtain rfl := h17_
    refine (does_not (ev rfl)).mono ?_; rintro _ _ ⟨rfl, rfl⟩
    exact ⟨rfl, Ext.refl _⟩
  refine RW_d _ rfl (fun v => by dsimp only [List.set]; try rfl) (fun u hu hF => ?_) (fun v50 => ?_)
  · have h18_ : v49 = (Bo (!(isGrid A_g))) := hF.1
    clear hF
    refine doesG_un rfl ?_
    obtain rfl := h18_
    refine (does_move (u := (Bo (!(isGrid A_g)))) (ev rfl)).mono ?_; rintro _ _ ⟨rfl, rfl⟩
    exact ⟨rfl, Ext.refl _⟩
  refine RW_d _ rfl (fun v => by dsimp only [List.set]; try rfl) (fun u hu hF => ?_) (fun v51 => ?_)
  · have h19_ : v50 = (Bo (!(isGrid A_g))) := hF.1
    clear hF
    obtain rfl := h19_
    refine doesG_g (b := (!(isGrid A_g))) rfl (yld rfl rfl) (fun hg1 => ?_) (fun hc => ⟨fun hg1 => absurd hg1 hc, Ext.refl _⟩)
    refine (does_loadAgg (cs := [(Fl r11), (Fl r13), (Fl r15)]) (ev rfl) Try.isAgg31 Try.sizeOf31 (Blk.cells ((hB30.ext E39).ext hu)) rfl).mono ?_; rintro _ _ ⟨rfl, rfl⟩
    exact ⟨fun _ => rfl, Ext.refl _⟩
  refine RW_d _ rfl (fun v => by dsimp only [List.set]; try rfl) (fun u hu hF => ?_) (fun v52 => ?_)
  · have h20_ : (!(isGrid A_g)) = false → v51 = (.agg #[(Fl r11), (Fl r13), (Fl r15)]) := hF.1
    have h19_ : v50 = (Bo (!(isGrid A_g))) := hF.2.1
    clear hF
    obtain rfl := h19_
    refine doesG_g (b := (!(isGrid A_g))) rfl (yld rfl rfl) (fun hg1 => ?_) (fun hc => ⟨fun hg1 => absurd hg1 hc, Ext.refl _⟩)
    obtain rfl := h20_ hg1
    refine (does_call (args := #[(.agg #[(Fl r11), (Fl r13), (Fl r15)])]) cal21 (evs rfl) (c_impl_finiteVector [(Fl r11), (Fl r13), (Fl r15)] A_p _ ⟨r11, r13, r15, rfl, h12, h14, h16⟩)).mono ?_; rintro v u' ⟨hx, hv⟩
    exact ⟨fun _ => hv, hx⟩
  refine RW_d _ rfl (fun v => by dsimp only [List.set]; try rfl) (fun u hu hF => ?_) (fun v53 => ?_)
  · have h21_ : (!(isGrid A_g)) = false → v52 = (Bo (finV A_p)) := hF.1
    have h19_ : v50 = (Bo (!(isGrid A_g))) := hF.2.1
    clear hF
    obtain rfl := h19_
    refine doesG_g (b := (!(isGrid A_g))) rfl (yld rfl rfl) (fun hg1 => ?_) (fun hc => ⟨fun hg1 => absurd hg1 hc, Ext.refl _⟩)
    obtain rfl := h21_ hg1
    refine (does_not (ev rfl)).mono ?_; rintro _ _ ⟨rfl, rfl⟩
    exact ⟨fun _ => rfl, Ext.refl _⟩
  refine RW_d _ rfl (fun v => by dsimp only [List.set]; try rfl) (fun u hu hF => ?_) (fun v54 => ?_)
  · have h19_ : v50 = (Bo (!(isGrid A_g))) := hF.1
    have h22_ : (!(isGrid A_g)) = false → v53 = (Bo (!(finV A_p))) := hF.2.1
    clear hF
    refine doesG_un rfl ?_
    skip
    obtain rfl := h19_
    refine (does_pick (b := (!(isGrid A_g))) (ev rfl) (ev rfl) (ev rfl)).mono ?_; rintro _ _ ⟨rfl, rfl⟩; refine ⟨?_, Ext.refl _⟩; rw [hβ1]; skip
    cases hbb : (!(isGrid A_g))
    all_goals first | rfl | (have e_ := h22_ hbb; subst e_; rfl) | (simp [hbb] at h22_ ⊢; first | done | rfl | (subst h22_; rfl) | simp_all) | (simp [hbb] at h22_ ⊢; done)
  refine RW_fin ?_; intro w55 E56 hP57
  obtain ⟨⟨⟨⟨⟨⟨⟨⟨-, -⟩, -⟩, -⟩, -⟩, -⟩, -⟩, -⟩, q58⟩ := hP57
  have X59 := Ext.gr X44 E56
  have q58 : v54 = (Bo β1) := q58
  obtain rfl := q58
  show wpList _ _ _ _ (fr [_, _, _, _, _, _, _, _, _, _, _, _, _, _, _, _, _, _, _, _, _, _, _, _, _, _, _, _, _, _, _, _, _, _, _, _, _, _, _, _, _, _, _, _, _, _, _, _, _, _, _, _, _, _, _, _, _, _, _, _, _, _, _, _, _, _, _, _, _, _, _, _, _, _, _, _, _, _, _, _, _, _, _, _, _, _, _, _, _, _]) _
  refine wpList_nil (hK46 _ _ ?_)
  refine wp_cond_split (t := β1) (ev rfl) (fun c60 => ?_) (fun c60 => ?_)
  · have c60' := c60
    (try simp only [hβ1] at c60')
    (try simp only [icmp, Bool.and_eq_true, Bool.or_eq_true, Bool.and_eq_false_iff, Bool.or_eq_false_iff, Bool.not_eq_true', Bool.not_eq_false', decide_eq_true_eq, decide_eq_false_iff_not, beq_iff_eq, bne_iff_ne, beq_eq_false_iff_ne, bne_eq_false_iff_eq] at c60')
    have hsf := slpOk_gp (g := A_g) (p := A_p) c60'
    refine wp_seq_k fun K61 hK61 => ?_
    refine wp_region_lit ?_
    refine q_is rfl rfl (does_build (parts' := []) (cells := #[(Fl 0), (Fl 0), (Fl 0)]) (evp rfl) (by kernel_rfl)) (by dsimp only [List.set]; try rfl) ?_
    refine seqn rfl rfl (does_store (n := 3) (cs := [(Fl 0), (Fl 0), (Fl 0)]) (u := (.agg #[(Fl 0), (Fl 0), (Fl 0)])) (ev rfl) (ev rfl) Try.sizeOf31 rfl (hB38.ext E56) (Nat.le_of_ble_eq_true rfl) rfl) ?_; rintro _ w64 ⟨rfl, W62, hB63⟩
    change Blk _ _ [(Fl 0), (Fl 0), (Fl 0)] at hB63
    have X65 := Below.wr X59 W62 g43
    refine q_is rfl rfl (does_assign (u := (Bo false)) (ev rfl)) (by dsimp only [List.set]; try rfl) ?_
    refine wpList_nil (hK61 _ _ ?_)
    refine wp_ret ?_
    dsimp only [Exit.then, Exit.inBlock]
    refine ret_val (v := (.tuple #[(.agg #[(Fl 0), (Fl 0), (Fl 0)]), (Bo false)])) (res_CT rfl (slot rfl) (run_loadAgg (cs := [(Fl 0), (Fl 0), (Fl 0)]) Try.isAgg31 Try.sizeOf31 (Blk.cells hB63) rfl) (slot rfl)) X65 ?_
    try simp only [h2, h4, h6, h8, h12, h14, h16, hβ1] at c60
    have x66 : (slpOk A_g A_p) = false := by first | exact hsf | (rw [slpV_f hsf] <;> rfl) | exact (fineI_eq hgg).symm.trans hfi | (rw [slpV_i hgg hfi]; simp only [h2, h4, h6, h8, h12, h14, h16, hβ1, c60]; rfl)
    have x67 : cf .f32 0 = (slpV A_g A_p).x := by first | exact hsf | (rw [slpV_f hsf] <;> rfl) | exact (fineI_eq hgg).symm.trans hfi | (rw [slpV_i hgg hfi]; simp only [h2, h4, h6, h8, h12, h14, h16, hβ1, c60]; rfl)
    have x68 : cf .f32 0 = (slpV A_g A_p).y := by first | exact hsf | (rw [slpV_f hsf] <;> rfl) | exact (fineI_eq hgg).symm.trans hfi | (rw [slpV_i hgg hfi]; simp only [h2, h4, h6, h8, h12, h14, h16, hβ1, c60]; rfl)
    have x69 : cf .f32 0 = (slpV A_g A_p).z := by first | exact hsf | (rw [slpV_f hsf] <;> rfl) | exact (fineI_eq hgg).symm.trans hfi | (rw [slpV_i hgg hfi]; simp only [h2, h4, h6, h8, h12, h14, h16, hβ1, c60]; rfl)
    exact ⟨[(Fl 0), (Fl 0), (Fl 0)], (by first | rfl | rw [x66]), ⟨0, 0, 0, rfl, x67, x68, x69⟩⟩
  have c60' := c60
  (try simp only [hβ1] at c60')
  (try simp only [icmp, Bool.and_eq_true, Bool.or_eq_true, Bool.and_eq_false_iff, Bool.or_eq_false_iff, Bool.not_eq_true', Bool.not_eq_false', decide_eq_true_eq, decide_eq_false_iff_not, beq_iff_eq, bne_iff_ne, beq_eq_false_iff_ne, bne_eq_false_iff_eq] at c60')
  have hgg := (c60').1
  refine wp_skip (hK45 _ _ ?_)
  refine wp_seq_k fun K70 hK70 => ?_
  refine wp_region_lit ?_
  refine q_is rfl rfl (does_build (parts' := []) (cells := #[(Fl 0), (Fl 0), (Fl 0)]) (evp rfl) (by kernel_rfl)) (by dsimp only [List.set]; try rfl) ?_
  refine seqd rfl rfl (does_alloc z54) ?_; rintro _ w75 ⟨b71, rfl, hb72, hB73, E74⟩
  have n76 : b21 < b71 := Nat.lt_of_lt_of_le (Blk.lt (((hB23.ext E31).ext E39).ext E56)) hb72
  have n77 : b28 < b71 := Nat.lt_of_lt_of_le (Blk.lt ((hB30.ext E39).ext E56)) hb72
  have n78 : b36 < b71 := Nat.lt_of_lt_of_le (Blk.lt (hB38.ext E56)) hb72
  have g79 : w.heap.size ≤ b71 := Nat.le_trans (Below.size X59) hb72
  change Blk _ _ [(Fl 0), (Fl 0), (Fl 0)] at hB73
  have X80 := Ext.gr X59 E74
  show wpList _ _ _ _ (fr [_, _, _, _, _, _, _, _, _, _, _, _, _, _, _, _, _, _, _, _, _, _, _, _, _, _, _, _, _, _, _, _, _, _, _, _, _, _, _, _, _, _, _, _, _, _, _, _, _, _, _, _, _, _, _, _, _, _, _, _, _, _, _, _, _, _, _, _, _, _, _, _, _, _, _, _, _, _, _, _, _, _, _, _, _, _, _, _, _, _]) _
  refine seqn rfl rfl (does_store (n := 3) (cs := [(Fl 0), (Fl 0), (Fl 0)]) (u := (.agg #[(Fl 0), (Fl 0), (Fl 0)])) (ev rfl) (ev rfl) Try.sizeOf54 rfl hB73 (Nat.le_of_ble_eq_true rfl) rfl) ?_; rintro _ w83 ⟨rfl, W81, hB82⟩
  change Blk _ _ [(Fl 0), (Fl 0), (Fl 0)] at hB82
  have X84 := Below.wr X80 W81 g79
  refine q_is rfl rfl (does_assign (u := (Bo true)) (ev rfl)) (by dsimp only [List.set]; try rfl) ?_
  refine wpList_nil (hK70 _ _ ?_)
  refine wp_seq_k fun K85 hK85 => ?_
  refine wp_seq_k fun K86 hK86 => ?_
  refine wp_region_lit ?_
  refine q_is rfl rfl (does_move (u := (Iv 0)) (ev rfl)) (by dsimp only [List.set]; try rfl) ?_
  refine wpList_nil (hK86 _ _ ?_)
  refine wp_block ?_
  refine loop_unroll 4 ?_
  refine un_step ?_
  refine wp_seq_k fun K87 hK87 => ?_
  refine wp_region_lit ?_
  refine q_is rfl rfl (does_icmp (p := 0) (q := 3) (.inr (.inr (.inl rfl))) (ev rfl) (ev rfl)) (by dsimp only [List.set]; try rfl) ?_
  refine wpList_nil (hK87 _ _ ?_)
  refine wp_seq_k fun K88 hK88 => ?_
  refine wp_cond_true (ev rfl) ?_
  refine wp_skip (hK88 _ _ ?_)
  refine wp_seq_k fun K89 hK89 => ?_
  refine wp_block ?_
  refine wp_seq_k fun K90 hK90 => ?_
  refine wp_region_lit ?_
  refine q_is rfl rfl (does_move (u := (Iv 0)) (ev rfl)) (by dsimp only [List.set]; try rfl) ?_
  refine q_is rfl rfl (does_assign (u := (Iv 0)) (ev rfl)) (by dsimp only [List.set]; try rfl) ?_
  refine wpList_nil (hK90 _ _ ?_)
  refine wp_seq_k fun K91 hK91 => ?_
  refine wp_region_lit ?_
  refine q_is rfl rfl (does_build (parts' := []) (cells := #[(Fl 0), (Fl 0), (Fl 0)]) (evp rfl) (by kernel_rfl)) (by dsimp only [List.set]; try rfl) ?_
  refine seqd rfl rfl (does_alloc z54) ?_; rintro _ w96 ⟨b92, rfl, hb93, hB94, E95⟩
  have n97 : b21 < b92 := Nat.lt_of_lt_of_le (Blk.lt (((((hB23.ext E31).ext E39).ext E56).ext E74).wr W81 (Nat.ne_of_lt n76))) hb93
  have n98 : b28 < b92 := Nat.lt_of_lt_of_le (Blk.lt ((((hB30.ext E39).ext E56).ext E74).wr W81 (Nat.ne_of_lt n77))) hb93
  have n99 : b36 < b92 := Nat.lt_of_lt_of_le (Blk.lt (((hB38.ext E56).ext E74).wr W81 (Nat.ne_of_lt n78))) hb93
  have n100 : b71 < b92 := Nat.lt_of_lt_of_le (Blk.lt hB82) hb93
  have g101 : w.heap.size ≤ b92 := Nat.le_trans (Below.size X84) hb93
  change Blk _ _ [(Fl 0), (Fl 0), (Fl 0)] at hB94
  have X102 := Ext.gr X84 E95
  show wpList _ _ _ _ (fr [_, _, _, _, _, _, _, _, _, _, _, _, _, _, _, _, _, _, _, _, _, _, _, _, _, _, _, _, _, _, _, _, _, _, _, _, _, _, _, _, _, _, _, _, _, _, _, _, _, _, _, _, _, _, _, _, _, _, _, _, _, _, _, _, _, _, _, _, _, _, _, _, _, _, _, _, _, _, _, _, _, _, _, _, _, _, _, _, _, _]) _
  refine seqn rfl rfl (does_store (n := 3) (cs := [(Fl 0), (Fl 0), (Fl 0)]) (u := (.agg #[(Fl 0), (Fl 0), (Fl 0)])) (ev rfl) (ev rfl) Try.sizeOf54 rfl hB94 (Nat.le_of_ble_eq_true rfl) rfl) ?_; rintro _ w105 ⟨rfl, W103, hB104⟩
  change Blk _ _ [(Fl 0), (Fl 0), (Fl 0)] at hB104
  have X106 := Below.wr X102 W103 g101
  refine wpList_nil (hK91 _ _ ?_)
  refine wp_seq_k fun K107 hK107 => ?_
  refine wp_region_lit ?_
  refine q_is rfl rfl (does_move (u := (Iv 0)) (ev rfl)) (by dsimp only [List.set]; try rfl) ?_
  refine q_is rfl rfl (does_fieldAddr (ev rfl) fa33_1) (by dsimp only [List.set]; try rfl) ?_
  refine q_is rfl rfl (does_load (u := (Fl r7)) (ev rfl) Try.isAgg22 (Cells.at (Blk.cells (((((((hB23.ext E31).ext E39).ext E56).ext E74).wr W81 (Nat.ne_of_lt n76)).ext E95).wr W103 (Nat.ne_of_lt n97))) 3 rfl)) (by dsimp only [List.set]; try rfl) ?_
  refine q_is rfl rfl (does_indexAt_run (r := (Pt b92 0)) (ev rfl) (ev rfl) (fun w => ia54_0 _ _ w)) (by dsimp only [List.set]; try rfl) ?_
  refine seqn rfl rfl (does_store (n := 1) (cs := [(Fl 0), (Fl 0), (Fl 0)]) (u := (Fl r7)) (ev rfl) (ev rfl) Try.sizeOf22 rfl hB104 (Nat.le_of_ble_eq_true rfl) rfl) ?_; rintro _ w110 ⟨rfl, W108, hB109⟩
  change Blk _ _ [(Fl r7), (Fl 0), (Fl 0)] at hB109
  have X111 := Below.wr X106 W108 g101
  refine wpList_nil (hK107 _ _ ?_)
  refine wp_seq_k fun K112 hK112 => ?_
  refine region_any3 [] [4, 5] [0, 1, 0, 7, 0, 0, 63, 127] [] (
    [FactW.pure [] [] [] true (fun v => v = (.agg #[(Fl r11), (Fl r13), (Fl r15)])),
      FactW.pure [0] [] [] true (fun v => ∃ r_1 : Nat, ∃ r_2 : Nat, ∃ r_3 : Nat, v = (.agg #[(Fl r_1), (Fl r_2), (Fl r_3)]) ∧ cf .f32 r_1 = A_p.x ∧ cf .f32 r_2 = A_p.y ∧ cf .f32 r_3 = A_p.z),
      FactW.pure [] [] [] true (fun v => v = (.agg #[(Fl r11), (Fl r13), (Fl r15)])),
      FactW.pure [2] [] [] true (fun v => ∃ r_1 : Nat, ∃ r_2 : Nat, ∃ r_3 : Nat, v = (.agg #[(Fl r_1), (Fl r_2), (Fl r_3)]) ∧ cf .f32 r_1 = A_p.x ∧ cf .f32 r_2 = A_p.y ∧ cf .f32 r_3 = A_p.z),
      FactW.mem [] [] [] [] true (fun v w' => ∃ b : Nat, v = .pointer (some ⟨b, 0, none⟩) ∧ w110.heap.size ≤ b ∧ Blk w' b [(Fl 0), (Fl 0), (Fl 0)]) (by rintro v w1 w2 hx' ⟨b, rfl, hb, hB⟩; have hx := KpL.toExt hx'; exact ⟨b, rfl, hb, (hB.ext hx)⟩),
      FactW.mem [] [] [] [] true (fun v w' => ∃ b : Nat, v = .pointer (some ⟨b, 0, none⟩) ∧ w110.heap.size ≤ b ∧ Blk w' b [(Fl 0), (Fl 0), (Fl 0)]) (by rintro v w1 w2 hx' ⟨b, rfl, hb, hB⟩; have hx := KpL.toExt hx'; exact ⟨b, rfl, hb, (hB.ext hx)⟩)]) mixed (by kernel_rfl) ?_
  obtain ⟨w113, hw115⟩ : ∃ w', w' = World.drew w110 := ⟨_, rfl⟩; rw [← hw115]; have E114 : Ext w110 w113 := by rw [hw115]; exact Ext.draw _
  clear hw115
  have X116 := Ext.gr X111 E114
  refine RW3_d _ rfl rfl (fun v => by dsimp only [List.set]; try rfl) (fun u hu hF => ?_) (fun v117 => ?_)
  · replace hu : KpL [] _ _ := hu
    clear hF
    refine doesG_un rfl ?_
    refine (does_loadAgg (cs := [(Fl r11), (Fl r13), (Fl r15)]) (ev rfl) Try.isAgg31 Try.sizeOf31 (Blk.cells (((((((((hB30.ext E39).ext E56).ext E74).wr W81 (Nat.ne_of_lt n77)).ext E95).wr W103 (Nat.ne_of_lt n98)).wr W108 (Nat.ne_of_lt n98)).ext E114).ext (KpL.toExt hu))) rfl).mono ?_; rintro _ _ ⟨rfl, rfl⟩
    exact ⟨rfl, KpL.refl _ _⟩
  refine RW3_d _ rfl rfl (fun v => by dsimp only [List.set]; try rfl) (fun u hu hF => ?_) (fun v118 => ?_)
  · replace hu : KpL [] _ _ := hu
    have h34_ : v117 = (.agg #[(Fl r11), (Fl r13), (Fl r15)]) := hF.1
    clear hF
    refine doesG_un rfl ?_
    obtain rfl := h34_
    refine (does_call (args := #[(.agg #[(Fl r11), (Fl r13), (Fl r15)])]) cal26 (evs rfl) (c_impl_coordinates [(Fl r11), (Fl r13), (Fl r15)] A_p _ ⟨r11, r13, r15, rfl, h12, h14, h16⟩)).mono ?_; rintro v u' ⟨hx, ⟨rn1, rn2, rn3, hv, k0, k1, k2⟩⟩
    exact ⟨⟨rn1, rn2, rn3, hv, (by simp only [k0]), (by simp only [k1]), (by simp only [k2])⟩, (KpL.of_ext hx)⟩
  refine RW3_d _ rfl rfl (fun v => by dsimp only [List.set]; try rfl) (fun u hu hF => ?_) (fun v119 => ?_)
  · replace hu : KpL [] _ _ := hu
    clear hF
    refine doesG_un rfl ?_
    refine (does_loadAgg (cs := [(Fl r11), (Fl r13), (Fl r15)]) (ev rfl) Try.isAgg31 Try.sizeOf31 (Blk.cells (((((((((hB30.ext E39).ext E56).ext E74).wr W81 (Nat.ne_of_lt n77)).ext E95).wr W103 (Nat.ne_of_lt n98)).wr W108 (Nat.ne_of_lt n98)).ext E114).ext (KpL.toExt hu))) rfl).mono ?_; rintro _ _ ⟨rfl, rfl⟩
    exact ⟨rfl, KpL.refl _ _⟩
  refine RW3_d _ rfl rfl (fun v => by dsimp only [List.set]; try rfl) (fun u hu hF => ?_) (fun v120 => ?_)
  · replace hu : KpL [] _ _ := hu
    have h36_ : v119 = (.agg #[(Fl r11), (Fl r13), (Fl r15)]) := hF.1
    clear hF
    refine doesG_un rfl ?_
    obtain rfl := h36_
    refine (does_call (args := #[(.agg #[(Fl r11), (Fl r13), (Fl r15)])]) cal26 (evs rfl) (c_impl_coordinates [(Fl r11), (Fl r13), (Fl r15)] A_p _ ⟨r11, r13, r15, rfl, h12, h14, h16⟩)).mono ?_; rintro v u' ⟨hx, ⟨rn1, rn2, rn3, hv, k0, k1, k2⟩⟩
    exact ⟨⟨rn1, rn2, rn3, hv, (by simp only [k0]), (by simp only [k1]), (by simp only [k2])⟩, (KpL.of_ext hx)⟩
  refine RW3_b _ rfl rfl (fun v => by dsimp only [List.set]; try rfl) (fun u hu hF => ?_) (fun v121 => ?_)
  · replace hu : KpL [] _ _ := hu
    clear hF
    refine doesG_un rfl ?_
    refine (does_alloc z54).mono ?_; rintro _ _ ⟨b, rfl, hb, hB, hx⟩
    exact ⟨⟨b, rfl, Nat.le_trans (Nat.le_trans (Below.size E114) (KpL.size hu)) hb, hB⟩, (KpL.of_ext hx), ⟨b, rfl, hb, hB.lt⟩⟩
  refine RW3_b _ rfl rfl (fun v => by dsimp only [List.set]; try rfl) (fun u hu hF => ?_) (fun v122 => ?_)
  · replace hu : KpL [] _ _ := hu
    clear hF
    refine doesG_un rfl ?_
    refine (does_alloc z54).mono ?_; rintro _ _ ⟨b, rfl, hb, hB, hx⟩
    exact ⟨⟨b, rfl, Nat.le_trans (Nat.le_trans (Below.size E114) (KpL.size hu)) hb, hB⟩, (KpL.of_ext hx), ⟨b, rfl, hb, hB.lt⟩⟩
  refine RW3_fin ?_; intro w123 E124 hP125 hND; replace E124 : KpL [] _ _ := E124
  obtain ⟨⟨⟨⟨⟨⟨-, -⟩, q126⟩, -⟩, q127⟩, q128⟩, q129⟩ := hP125
  have X130 := Below.kl X116 E124 all0 (Nat.le_refl _)
  have q126 : ∃ r_1 : Nat, ∃ r_2 : Nat, ∃ r_3 : Nat, v118 = (.agg #[(Fl r_1), (Fl r_2), (Fl r_3)]) ∧ cf .f32 r_1 = A_p.x ∧ cf .f32 r_2 = A_p.y ∧ cf .f32 r_3 = A_p.z := q126 rfl
  obtain ⟨r131, r133, r135, rfl, h132, h134, h136⟩ := q126
  have q127 : ∃ r_1 : Nat, ∃ r_2 : Nat, ∃ r_3 : Nat, v120 = (.agg #[(Fl r_1), (Fl r_2), (Fl r_3)]) ∧ cf .f32 r_1 = A_p.x ∧ cf .f32 r_2 = A_p.y ∧ cf .f32 r_3 = A_p.z := q127 rfl
  obtain ⟨r137, r139, r141, rfl, h138, h140, h142⟩ := q127
  have q128 : ∃ b : Nat, v121 = .pointer (some ⟨b, 0, none⟩) ∧ w110.heap.size ≤ b ∧ Blk w123 b [(Fl 0), (Fl 0), (Fl 0)] := q128 rfl
  obtain ⟨b143, rfl, hb144, hB145⟩ := q128
  have n146 : b21 < b143 := Nat.lt_of_lt_of_le (Blk.lt ((((((((hB23.ext E31).ext E39).ext E56).ext E74).wr W81 (Nat.ne_of_lt n76)).ext E95).wr W103 (Nat.ne_of_lt n97)).wr W108 (Nat.ne_of_lt n97))) hb144
  have n147 : b28 < b143 := Nat.lt_of_lt_of_le (Blk.lt (((((((hB30.ext E39).ext E56).ext E74).wr W81 (Nat.ne_of_lt n77)).ext E95).wr W103 (Nat.ne_of_lt n98)).wr W108 (Nat.ne_of_lt n98))) hb144
  have n148 : b36 < b143 := Nat.lt_of_lt_of_le (Blk.lt ((((((hB38.ext E56).ext E74).wr W81 (Nat.ne_of_lt n78)).ext E95).wr W103 (Nat.ne_of_lt n99)).wr W108 (Nat.ne_of_lt n99))) hb144
  have n149 : b71 < b143 := Nat.lt_of_lt_of_le (Blk.lt (((hB82.ext E95).wr W103 (Nat.ne_of_lt n100)).wr W108 (Nat.ne_of_lt n100))) hb144
  have n150 : b92 < b143 := Nat.lt_of_lt_of_le (Blk.lt hB109) hb144
  have g151 : w.heap.size ≤ b143 := Nat.le_trans (Below.size X111) hb144
  have q129 : ∃ b : Nat, v122 = .pointer (some ⟨b, 0, none⟩) ∧ w110.heap.size ≤ b ∧ Blk w123 b [(Fl 0), (Fl 0), (Fl 0)] := q129 rfl
  obtain ⟨b152, rfl, hb153, hB154⟩ := q129
  have n155 : b21 < b152 := Nat.lt_of_lt_of_le (Blk.lt ((((((((hB23.ext E31).ext E39).ext E56).ext E74).wr W81 (Nat.ne_of_lt n76)).ext E95).wr W103 (Nat.ne_of_lt n97)).wr W108 (Nat.ne_of_lt n97))) hb153
  have n156 : b28 < b152 := Nat.lt_of_lt_of_le (Blk.lt (((((((hB30.ext E39).ext E56).ext E74).wr W81 (Nat.ne_of_lt n77)).ext E95).wr W103 (Nat.ne_of_lt n98)).wr W108 (Nat.ne_of_lt n98))) hb153
  have n157 : b36 < b152 := Nat.lt_of_lt_of_le (Blk.lt ((((((hB38.ext E56).ext E74).wr W81 (Nat.ne_of_lt n78)).ext E95).wr W103 (Nat.ne_of_lt n99)).wr W108 (Nat.ne_of_lt n99))) hb153
  have n158 : b71 < b152 := Nat.lt_of_lt_of_le (Blk.lt (((hB82.ext E95).wr W103 (Nat.ne_of_lt n100)).wr W108 (Nat.ne_of_lt n100))) hb153
  have n159 : b92 < b152 := Nat.lt_of_lt_of_le (Blk.lt hB109) hb153
  have g160 : w.heap.size ≤ b152 := Nat.le_trans (Below.size X111) hb153
  have n161 : b152 ≠ b143 := by intro h; subst h; simp at hND
  clear hND
  show wpList _ _ _ _ (fr [_, _, _, _, _, _, _, _, _, _, _, _, _, _, _, _, _, _, _, _, _, _, _, _, _, _, _, _, _, _, _, _, _, _, _, _, _, _, _, _, _, _, _, _, _, _, _, _, _, _, _, _, _, _, _, _, _, _, _, _, _, _, _, _, _, _, _, _, _, _, _, _, _, _, _, _, _, _, _, _, _, _, _, _, _, _, _, _, _, _]) _
  refine seqn rfl rfl (does_store (n := 3) (cs := [(Fl 0), (Fl 0), (Fl 0)]) (u := (.agg #[(Fl r131), (Fl r133), (Fl r135)])) (ev rfl) (ev rfl) Try.sizeOf54 rfl hB145 (Nat.le_of_ble_eq_true rfl) rfl) ?_; rintro _ w164 ⟨rfl, W162, hB163⟩
  change Blk _ _ [(Fl r131), (Fl r133), (Fl r135)] at hB163
  have X165 := Below.wr X130 W162 g151
  refine seqn rfl rfl (does_store (n := 3) (cs := [(Fl 0), (Fl 0), (Fl 0)]) (u := (.agg #[(Fl r137), (Fl r139), (Fl r141)])) (ev rfl) (ev rfl) Try.sizeOf54 rfl (hB154.wr W162 n161) (Nat.le_of_ble_eq_true rfl) rfl) ?_; rintro _ w168 ⟨rfl, W166, hB167⟩
  change Blk _ _ [(Fl r137), (Fl r139), (Fl r141)] at hB167
  have X169 := Below.wr X165 W166 g160
  refine wpList_nil (hK112 _ _ ?_)
  refine wp_seq_k fun K170 hK170 => ?_
  refine region_draw (
    [Fact.pure [] (fun v => v = (Iv 0)),
    Fact.pure [38] (fun v => v = (Pt b143 0)),
    Fact.pure [39] (fun v => v = (Fl r131)),
    Fact.pure [] (fun v => v = (Iv 0)),
    Fact.pure [41] (fun v => v = (Pt b92 0)),
    Fact.pure [42] (fun v => v = (Fl r7)),
    Fact.pure [40, 43] (fun v => ∃ r_1 : Nat, v = (Fl r_1) ∧ cf .f32 r_1 = fop .add .f32 (cf .f32 r131) (cf .f32 r7)),
    Fact.pure [38] (fun v => v = (Pt b143 0))]) mixed (by kernel_rfl) (by intro _ _ d _ _ h; cases d <;> exact h) ?_
  obtain ⟨w171, hw173⟩ : ∃ w', w' = World.drew w168 := ⟨_, rfl⟩; rw [← hw173]; have E172 : Ext w168 w171 := by rw [hw173]; exact Ext.draw _
  clear hw173
  have X174 := Ext.gr X169 E172
  refine RW_d _ rfl (fun v => by dsimp only [List.set]; try rfl) (fun u hu hF => ?_) (fun v175 => ?_)
  · clear hF
    refine doesG_un rfl ?_
    refine (does_move (u := (Iv 0)) (ev rfl)).mono ?_; rintro _ _ ⟨rfl, rfl⟩
    exact ⟨rfl, Ext.refl _⟩
  refine RW_d _ rfl (fun v => by dsimp only [List.set]; try rfl) (fun u hu hF => ?_) (fun v176 => ?_)
  · have h38_ : v175 = (Iv 0) := hF.1
    clear hF
    refine doesG_un rfl ?_
    obtain rfl := h38_
    refine (does_indexAt_run (r := (Pt b143 0)) (ev rfl) (ev rfl) (fun w => ia54_0 _ _ w)).mono ?_; rintro _ _ ⟨rfl, rfl⟩
    exact ⟨rfl, Ext.refl _⟩
  refine RW_d _ rfl (fun v => by dsimp only [List.set]; try rfl) (fun u hu hF => ?_) (fun v177 => ?_)
  · have h39_ : v176 = (Pt b143 0) := hF.1
    clear hF
    refine doesG_un rfl ?_
    obtain rfl := h39_
    refine (does_load (u := (Fl r131)) (ev rfl) Try.isAgg22 (Cells.at (Blk.cells (((hB163.wr W166 (Ne.symm n161)).ext E172).ext hu)) 0 rfl)).mono ?_; rintro _ _ ⟨rfl, rfl⟩
    exact ⟨rfl, Ext.refl _⟩
  refine RW_d _ rfl (fun v => by dsimp only [List.set]; try rfl) (fun u hu hF => ?_) (fun v178 => ?_)
  · clear hF
    refine doesG_un rfl ?_
    refine (does_move (u := (Iv 0)) (ev rfl)).mono ?_; rintro _ _ ⟨rfl, rfl⟩
    exact ⟨rfl, Ext.refl _⟩
  refine RW_d _ rfl (fun v => by dsimp only [List.set]; try rfl) (fun u hu hF => ?_) (fun v179 => ?_)
  · have h41_ : v178 = (Iv 0) := hF.1
    clear hF
    refine doesG_un rfl ?_
    obtain rfl := h41_
    refine (does_indexAt_run (r := (Pt b92 0)) (ev rfl) (ev rfl) (fun w => ia54_0 _ _ w)).mono ?_; rintro _ _ ⟨rfl, rfl⟩
    exact ⟨rfl, Ext.refl _⟩
  refine RW_d _ rfl (fun v => by dsimp only [List.set]; try rfl) (fun u hu hF => ?_) (fun v180 => ?_)
  · have h42_ : v179 = (Pt b92 0) := hF.1
    clear hF
    refine doesG_un rfl ?_
    obtain rfl := h42_
    refine (does_load (u := (Fl r7)) (ev rfl) Try.isAgg22 (Cells.at (Blk.cells ((((((hB109.ext E114).kl E124 nin0).wr W162 (Nat.ne_of_lt n150)).wr W166 (Nat.ne_of_lt n159)).ext E172).ext hu)) 0 rfl)).mono ?_; rintro _ _ ⟨rfl, rfl⟩
    exact ⟨rfl, Ext.refl _⟩
  refine RW_d _ rfl (fun v => by dsimp only [List.set]; try rfl) (fun u hu hF => ?_) (fun v181 => ?_)
  · have h40_ : v177 = (Fl r131) := hF.1
    have h43_ : v180 = (Fl r7) := hF.2.1
    clear hF
    refine doesG_un rfl ?_
    obtain rfl := h40_
    obtain rfl := h43_
    refine (does_float (.inl rfl) (ev rfl) (ev rfl)).mono ?_; rintro _ _ ⟨r, rfl, hr, hx⟩
    exact ⟨⟨r, rfl, (by simp only [hr])⟩, hx⟩
  refine RW_d _ rfl (fun v => by dsimp only [List.set]; try rfl) (fun u hu hF => ?_) (fun v182 => ?_)
  · have h38_ : v175 = (Iv 0) := hF.1
    clear hF
    refine doesG_un rfl ?_
    obtain rfl := h38_
    refine (does_indexAt_run (r := (Pt b143 0)) (ev rfl) (ev rfl) (fun w => ia54_0 _ _ w)).mono ?_; rintro _ _ ⟨rfl, rfl⟩
    exact ⟨rfl, Ext.refl _⟩
  refine RW_fin ?_; intro w183 E184 hP185
  obtain ⟨⟨⟨⟨⟨⟨⟨⟨-, -⟩, -⟩, -⟩, -⟩, -⟩, -⟩, q186⟩, q187⟩ := hP185
  have X188 := Ext.gr X174 E184
  have q186 : ∃ r_1 : Nat, v181 = (Fl r_1) ∧ cf .f32 r_1 = fop .add .f32 (cf .f32 r131) (cf .f32 r7) := q186
  obtain ⟨r189, rfl, h190⟩ := q186
  have q187 : v182 = (Pt b143 0) := q187
  obtain rfl := q187
  show wpList _ _ _ _ (fr [_, _, _, _, _, _, _, _, _, _, _, _, _, _, _, _, _, _, _, _, _, _, _, _, _, _, _, _, _, _, _, _, _, _, _, _, _, _, _, _, _, _, _, _, _, _, _, _, _, _, _, _, _, _, _, _, _, _, _, _, _, _, _, _, _, _, _, _, _, _, _, _, _, _, _, _, _, _, _, _, _, _, _, _, _, _, _, _, _, _]) _
  refine seqn rfl rfl (does_store (n := 1) (cs := [(Fl r131), (Fl r133), (Fl r135)]) (u := (Fl r189)) (ev rfl) (ev rfl) Try.sizeOf22 rfl (((hB163.wr W166 (Ne.symm n161)).ext E172).ext E184) (Nat.le_of_ble_eq_true rfl) rfl) ?_; rintro _ w193 ⟨rfl, W191, hB192⟩
  change Blk _ _ [(Fl r189), (Fl r133), (Fl r135)] at hB192
  have X194 := Below.wr X188 W191 g151
  refine wpList_nil (hK170 _ _ ?_)
  refine wp_seq_k fun K195 hK195 => ?_
  refine region_draw (
    [Fact.pure [] (fun v => v = (Iv 0)),
    Fact.pure [46] (fun v => v = (Pt b152 0)),
    Fact.pure [47] (fun v => v = (Fl r137)),
    Fact.pure [] (fun v => v = (Iv 0)),
    Fact.pure [49] (fun v => v = (Pt b92 0)),
    Fact.pure [50] (fun v => v = (Fl r7)),
    Fact.pure [48, 51] (fun v => ∃ r_1 : Nat, v = (Fl r_1) ∧ cf .f32 r_1 = fop .sub .f32 (cf .f32 r137) (cf .f32 r7)),
    Fact.pure [46] (fun v => v = (Pt b152 0))]) mixed (by kernel_rfl) (by intro _ _ d _ _ h; cases d <;> exact h) ?_
  obtain ⟨w196, hw198⟩ : ∃ w', w' = World.drew w193 := ⟨_, rfl⟩; rw [← hw198]; have E197 : Ext w193 w196 := by rw [hw198]; exact Ext.draw _
  clear hw198
  have X199 := Ext.gr X194 E197
  refine RW_d _ rfl (fun v => by dsimp only [List.set]; try rfl) (fun u hu hF => ?_) (fun v200 => ?_)
  · clear hF
    refine doesG_un rfl ?_
    refine (does_move (u := (Iv 0)) (ev rfl)).mono ?_; rintro _ _ ⟨rfl, rfl⟩
    exact ⟨rfl, Ext.refl _⟩
  refine RW_d _ rfl (fun v => by dsimp only [List.set]; try rfl) (fun u hu hF => ?_) (fun v201 => ?_)
  · have h46_ : v200 = (Iv 0) := hF.1
    clear hF
    refine doesG_un rfl ?_
    obtain rfl := h46_
    refine (does_indexAt_run (r := (Pt b152 0)) (ev rfl) (ev rfl) (fun w => ia54_0 _ _ w)).mono ?_; rintro _ _ ⟨rfl, rfl⟩
    exact ⟨rfl, Ext.refl _⟩
  refine RW_d _ rfl (fun v => by dsimp only [List.set]; try rfl) (fun u hu hF => ?_) (fun v202 => ?_)
  · have h47_ : v201 = (Pt b152 0) := hF.1
    clear hF
    refine doesG_un rfl ?_
    obtain rfl := h47_
    refine (does_load (u := (Fl r137)) (ev rfl) Try.isAgg22 (Cells.at (Blk.cells (((((hB167.ext E172).ext E184).wr W191 n161).ext E197).ext hu)) 0 rfl)).mono ?_; rintro _ _ ⟨rfl, rfl⟩
    exact ⟨rfl, Ext.refl _⟩
  refine RW_d _ rfl (fun v => by dsimp only [List.set]; try rfl) (fun u hu hF => ?_) (fun v203 => ?_)
  · clear hF
    refine doesG_un rfl ?_
    refine (does_move (u := (Iv 0)) (ev rfl)).mono ?_; rintro _ _ ⟨rfl, rfl⟩
    exact ⟨rfl, Ext.refl _⟩
  refine RW_d _ rfl (fun v => by dsimp only [List.set]; try rfl) (fun u hu hF => ?_) (fun v204 => ?_)
  · have h49_ : v203 = (Iv 0) := hF.1
    clear hF
    refine doesG_un rfl ?_
    obtain rfl := h49_
    refine (does_indexAt_run (r := (Pt b92 0)) (ev rfl) (ev rfl) (fun w => ia54_0 _ _ w)).mono ?_; rintro _ _ ⟨rfl, rfl⟩
    exact ⟨rfl, Ext.refl _⟩
  refine RW_d _ rfl (fun v => by dsimp only [List.set]; try rfl) (fun u hu hF => ?_) (fun v205 => ?_)
  · have h50_ : v204 = (Pt b92 0) := hF.1
    clear hF
    refine doesG_un rfl ?_
    obtain rfl := h50_
    refine (does_load (u := (Fl r7)) (ev rfl) Try.isAgg22 (Cells.at (Blk.cells (((((((((hB109.ext E114).kl E124 nin0).wr W162 (Nat.ne_of_lt n150)).wr W166 (Nat.ne_of_lt n159)).ext E172).ext E184).wr W191 (Nat.ne_of_lt n150)).ext E197).ext hu)) 0 rfl)).mono ?_; rintro _ _ ⟨rfl, rfl⟩
    exact ⟨rfl, Ext.refl _⟩
  refine RW_d _ rfl (fun v => by dsimp only [List.set]; try rfl) (fun u hu hF => ?_) (fun v206 => ?_)
  · have h48_ : v202 = (Fl r137) := hF.1
    have h51_ : v205 = (Fl r7) := hF.2.1
    clear hF
    refine doesG_un rfl ?_
    obtain rfl := h48_
    obtain rfl := h51_
    refine (does_float (.inr (.inl rfl)) (ev rfl) (ev rfl)).mono ?_; rintro _ _ ⟨r, rfl, hr, hx⟩
    exact ⟨⟨r, rfl, (by simp only [hr])⟩, hx⟩
  refine RW_d _ rfl (fun v => by dsimp only [List.set]; try rfl) (fun u hu hF => ?_) (fun v207 => ?_)
  · have h46_ : v200 = (Iv 0) := hF.1
    clear hF
    refine doesG_un rfl ?_
    obtain rfl := h46_
    refine (does_indexAt_run (r := (Pt b152 0)) (ev rfl) (ev rfl) (fun w => ia54_0 _ _ w)).mono ?_; rintro _ _ ⟨rfl, rfl⟩
    exact ⟨rfl, Ext.refl _⟩
  refine RW_fin ?_; intro w208 E209 hP210
  obtain ⟨⟨⟨⟨⟨⟨⟨⟨-, -⟩, -⟩, -⟩, -⟩, -⟩, -⟩, q211⟩, q212⟩ := hP210
  have X213 := Ext.gr X199 E209
  have q211 : ∃ r_1 : Nat, v206 = (Fl r_1) ∧ cf .f32 r_1 = fop .sub .f32 (cf .f32 r137) (cf .f32 r7) := q211
  obtain ⟨r214, rfl, h215⟩ := q211
  have q212 : v207 = (Pt b152 0) := q212
  obtain rfl := q212
  show wpList _ _ _ _ (fr [_, _, _, _, _, _, _, _, _, _, _, _, _, _, _, _, _, _, _, _, _, _, _, _, _, _, _, _, _, _, _, _, _, _, _, _, _, _, _, _, _, _, _, _, _, _, _, _, _, _, _, _, _, _, _, _, _, _, _, _, _, _, _, _, _, _, _, _, _, _, _, _, _, _, _, _, _, _, _, _, _, _, _, _, _, _, _, _, _, _]) _
  refine seqn rfl rfl (does_store (n := 1) (cs := [(Fl r137), (Fl r139), (Fl r141)]) (u := (Fl r214)) (ev rfl) (ev rfl) Try.sizeOf22 rfl (((((hB167.ext E172).ext E184).wr W191 n161).ext E197).ext E209) (Nat.le_of_ble_eq_true rfl) rfl) ?_; rintro _ w218 ⟨rfl, W216, hB217⟩
  change Blk _ _ [(Fl r214), (Fl r139), (Fl r141)] at hB217
  have X219 := Below.wr X213 W216 g160
  refine wpList_nil (hK195 _ _ ?_)
  refine wp_seq_k fun K220 hK220 => ?_
  obtain ⟨β2, hβ2⟩ : ∃ b : Bool, b = (vbtOk A_g (V3.mk (cf .f32 r189) (cf .f32 r133) (cf .f32 r135))) := ⟨_, rfl⟩
  refine region_draw (
    [Fact.pure [] (fun v => v = (.agg #[(Fl r1), (Fl r3), (Fl r5), (Fl r7), (Iv A_g.x), (Iv A_g.y), (Iv A_g.z), (.slice p17 A_g.vals.length q18)])),
    Fact.pure [] (fun v => v = (.agg #[(Fl r189), (Fl r133), (Fl r135)])),
    Fact.pure [56] (fun v => ∃ cs_1 : List Value, v = (.agg cs_1.toArray) ∧ RV3 w (V3.mk (cf .f32 r189) (cf .f32 r133) (cf .f32 r135)) cs_1),
    Fact.pure [55, 57] (fun v => ∃ r_1 : Nat, v = (.tuple #[(Fl r_1), (Bo (vbtOk A_g (V3.mk (cf .f32 r189) (cf .f32 r133) (cf .f32 r135))))]) ∧ cf .f32 r_1 = vbtG A_g (V3.mk (cf .f32 r189) (cf .f32 r133) (cf .f32 r135))),
    Fact.pure [58] (fun v => ∃ r_1 : Nat, v = (.tuple #[(Fl r_1), (Bo (vbtOk A_g (V3.mk (cf .f32 r189) (cf .f32 r133) (cf .f32 r135))))]) ∧ cf .f32 r_1 = vbtG A_g (V3.mk (cf .f32 r189) (cf .f32 r133) (cf .f32 r135))),
    Fact.pure [54] (fun v => ∃ r_1 : Nat, v = (Fl r_1) ∧ cf .f32 r_1 = vbtG A_g (V3.mk (cf .f32 r189) (cf .f32 r133) (cf .f32 r135))),
    Fact.flt [54] (fun v => v = (Bo β2))]) mixed (by kernel_rfl) (by intro _ _ d _ _ h; cases d <;> exact h) ?_
  obtain ⟨w221, hw223⟩ : ∃ w', w' = World.drew w218 := ⟨_, rfl⟩; rw [← hw223]; have E222 : Ext w218 w221 := by rw [hw223]; exact Ext.draw _
  clear hw223
  have X224 := Ext.gr X219 E222
  refine RW_d _ rfl (fun v => by dsimp only [List.set]; try rfl) (fun u hu hF => ?_) (fun v225 => ?_)
  · clear hF
    refine doesG_un rfl ?_
    refine (does_loadAgg (cs := [(Fl r1), (Fl r3), (Fl r5), (Fl r7), (Iv A_g.x), (Iv A_g.y), (Iv A_g.z), (.slice p17 A_g.vals.length q18)]) (ev rfl) Try.isAgg33 Try.sizeOf33 (Blk.cells ((((((((((((((((((((hB23.ext E31).ext E39).ext E56).ext E74).wr W81 (Nat.ne_of_lt n76)).ext E95).wr W103 (Nat.ne_of_lt n97)).wr W108 (Nat.ne_of_lt n97)).ext E114).kl E124 nin0).wr W162 (Nat.ne_of_lt n146)).wr W166 (Nat.ne_of_lt n155)).ext E172).ext E184).wr W191 (Nat.ne_of_lt n146)).ext E197).ext E209).wr W216 (Nat.ne_of_lt n155)).ext E222).ext hu)) rfl).mono ?_; rintro _ _ ⟨rfl, rfl⟩
    exact ⟨rfl, Ext.refl _⟩
  refine RW_d _ rfl (fun v => by dsimp only [List.set]; try rfl) (fun u hu hF => ?_) (fun v226 => ?_)
  · clear hF
    refine doesG_un rfl ?_
    refine (does_loadAgg (cs := [(Fl r189), (Fl r133), (Fl r135)]) (ev rfl) Try.isAgg54 Try.sizeOf54 (Blk.cells (((((hB192.ext E197).ext E209).wr W216 (Ne.symm n161)).ext E222).ext hu)) rfl).mono ?_; rintro _ _ ⟨rfl, rfl⟩
    exact ⟨rfl, Ext.refl _⟩
  refine RW_d _ rfl (fun v => by dsimp only [List.set]; try rfl) (fun u hu hF => ?_) (fun v227 => ?_)
  · have h56_ : v226 = (.agg #[(Fl r189), (Fl r133), (Fl r135)]) := hF.1
    clear hF
    refine doesG_un rfl ?_
    obtain rfl := h56_
    refine (does_call (args := #[(.agg #[(Fl r189), (Fl r133), (Fl r135)])]) cal27 (evs rfl) (c_impl_vectorOf r189 r133 r135 _)).mono ?_; rintro v u' ⟨hx, ⟨csn1, hv, k0⟩⟩
    exact ⟨⟨csn1, hv, k0⟩, hx⟩
  refine RW_d _ rfl (fun v => by dsimp only [List.set]; try rfl) (fun u hu hF => ?_) (fun v228 => ?_)
  · have h55_ : v225 = (.agg #[(Fl r1), (Fl r3), (Fl r5), (Fl r7), (Iv A_g.x), (Iv A_g.y), (Iv A_g.z), (.slice p17 A_g.vals.length q18)]) := hF.1
    have h57_ : ∃ cs_1 : List Value, v227 = (.agg cs_1.toArray) ∧ RV3 w (V3.mk (cf .f32 r189) (cf .f32 r133) (cf .f32 r135)) cs_1 := hF.2.1
    clear hF
    refine doesG_un rfl ?_
    obtain rfl := h55_
    obtain ⟨_, rfl, ⟨r57_1, r57_3, r57_5, rfl, h57_2, h57_4, h57_6⟩⟩ := h57_
    refine (does_call (args := #[(.agg #[(Fl r1), (Fl r3), (Fl r5), (Fl r7), (Iv A_g.x), (Iv A_g.y), (Iv A_g.z), (.slice p17 A_g.vals.length q18)]), (.agg #[(Fl r57_1), (Fl r57_3), (Fl r57_5)])]) cal9 (evs rfl) (c_impl_ValueBetween [(Fl r1), (Fl r3), (Fl r5), (Fl r7), (Iv A_g.x), (Iv A_g.y), (Iv A_g.z), (.slice p17 A_g.vals.length q18)] A_g [(Fl r57_1), (Fl r57_3), (Fl r57_5)] (V3.mk (cf .f32 r189) (cf .f32 r133) (cf .f32 r135)) _ ⟨r1, r3, r5, r7, (.slice p17 A_g.vals.length q18), rfl, h2, h4, h6, h8, (Sl.ext (Sl.ext hs19 RF.mono (Ext.gr X219 E222)) RF.mono hu)⟩ ⟨r57_1, r57_3, r57_5, rfl, (by assumption), (by assumption), (by assumption)⟩)).mono ?_; rintro v u' ⟨hx, ⟨rn1, hv, k0⟩⟩
    exact ⟨⟨rn1, hv.trans (by simp only [h57_2, h57_4, h57_6]), (by simp only [k0, h57_2, h57_4, h57_6])⟩, hx⟩
  refine RW_d _ rfl (fun v => by dsimp only [List.set]; try rfl) (fun u hu hF => ?_) (fun v229 => ?_)
  · have h58_ : ∃ r_1 : Nat, v228 = (.tuple #[(Fl r_1), (Bo (vbtOk A_g (V3.mk (cf .f32 r189) (cf .f32 r133) (cf .f32 r135))))]) ∧ cf .f32 r_1 = vbtG A_g (V3.mk (cf .f32 r189) (cf .f32 r133) (cf .f32 r135)) := hF.1
    clear hF
    refine doesG_un rfl ?_
    obtain ⟨r58_1, rfl, h58_2⟩ := h58_
    refine (does_move (u := (.tuple #[(Fl r58_1), (Bo (vbtOk A_g (V3.mk (cf .f32 r189) (cf .f32 r133) (cf .f32 r135))))])) (ev rfl)).mono ?_; rintro _ _ ⟨rfl, rfl⟩
    exact ⟨⟨r58_1, rfl, (by simp only [h58_2])⟩, Ext.refl _⟩
  refine RW_d _ rfl (fun v => by dsimp only [List.set]; try rfl) (fun u hu hF => ?_) (fun v230 => ?_)
  · have h54_ : ∃ r_1 : Nat, v229 = (.tuple #[(Fl r_1), (Bo (vbtOk A_g (V3.mk (cf .f32 r189) (cf .f32 r133) (cf .f32 r135))))]) ∧ cf .f32 r_1 = vbtG A_g (V3.mk (cf .f32 r189) (cf .f32 r133) (cf .f32 r135)) := hF.1
    clear hF
    refine doesG_un rfl ?_
    obtain ⟨r54_1, rfl, h54_2⟩ := h54_
    refine (does_extract (vs := #[(Fl r54_1), (Bo (vbtOk A_g (V3.mk (cf .f32 r189) (cf .f32 r133) (cf .f32 r135))))]) (u := (Fl r54_1)) (ev rfl) rfl).mono ?_; rintro _ _ ⟨rfl, rfl⟩
    exact ⟨⟨r54_1, rfl, (by simp only [h54_2])⟩, Ext.refl _⟩
  refine RW_d _ rfl (fun v => by dsimp only [List.set]; try rfl) (fun u hu hF => ?_) (fun v231 => ?_)
  · have h54_ : ∃ r_1 : Nat, v229 = (.tuple #[(Fl r_1), (Bo (vbtOk A_g (V3.mk (cf .f32 r189) (cf .f32 r133) (cf .f32 r135))))]) ∧ cf .f32 r_1 = vbtG A_g (V3.mk (cf .f32 r189) (cf .f32 r133) (cf .f32 r135)) := hF.1
    clear hF
    obtain ⟨r54_1, rfl, h54_2⟩ := h54_
    exact ⟨_, yields_is rfl (run_extract (ev rfl) rfl), (by first | rfl | (show _ = _; simp only [hβ2, h54_2]; done) | (show _ = _; simp only [hβ2, h54_2]; rfl))⟩
  refine RW_fin ?_; intro w232 E233 hP234
  obtain ⟨⟨⟨⟨⟨⟨⟨-, -⟩, -⟩, -⟩, -⟩, -⟩, q235⟩, q236⟩ := hP234
  have X237 := Ext.gr X224 E233
  have q235 : ∃ r_1 : Nat, v230 = (Fl r_1) ∧ cf .f32 r_1 = vbtG A_g (V3.mk (cf .f32 r189) (cf .f32 r133) (cf .f32 r135)) := q235
  obtain ⟨r238, rfl, h239⟩ := q235
  have q236 : v231 = (Bo β2) := q236
  obtain rfl := q236
  show wpList _ _ _ _ (fr [_, _, _, _, _, _, _, _, _, _, _, _, _, _, _, _, _, _, _, _, _, _, _, _, _, _, _, _, _, _, _, _, _, _, _, _, _, _, _, _, _, _, _, _, _, _, _, _, _, _, _, _, _, _, _, _, _, _, _, _, _, _, _, _, _, _, _, _, _, _, _, _, _, _, _, _, _, _, _, _, _, _, _, _, _, _, _, _, _, _]) _
  refine q_is rfl rfl (does_assign (u := (Fl r238)) (ev rfl)) (by dsimp only [List.set]; try rfl) ?_
  refine q_is rfl rfl (does_assign (u := (Bo β2)) (ev rfl)) (by dsimp only [List.set]; try rfl) ?_
  refine wpList_nil (hK220 _ _ ?_)
  refine wp_seq_k fun K240 hK240 => ?_
  obtain ⟨β3, hβ3⟩ : ∃ b : Bool, b = (vbtOk A_g (V3.mk (cf .f32 r214) (cf .f32 r139) (cf .f32 r141))) := ⟨_, rfl⟩
  refine region_draw (
    [Fact.pure [] (fun v => v = (.agg #[(Fl r1), (Fl r3), (Fl r5), (Fl r7), (Iv A_g.x), (Iv A_g.y), (Iv A_g.z), (.slice p17 A_g.vals.length q18)])),
    Fact.pure [] (fun v => v = (.agg #[(Fl r214), (Fl r139), (Fl r141)])),
    Fact.pure [63] (fun v => ∃ cs_1 : List Value, v = (.agg cs_1.toArray) ∧ RV3 w (V3.mk (cf .f32 r214) (cf .f32 r139) (cf .f32 r141)) cs_1),
    Fact.pure [62, 64] (fun v => ∃ r_1 : Nat, v = (.tuple #[(Fl r_1), (Bo (vbtOk A_g (V3.mk (cf .f32 r214) (cf .f32 r139) (cf .f32 r141))))]) ∧ cf .f32 r_1 = vbtG A_g (V3.mk (cf .f32 r214) (cf .f32 r139) (cf .f32 r141))),
    Fact.pure [65] (fun v => ∃ r_1 : Nat, v = (.tuple #[(Fl r_1), (Bo (vbtOk A_g (V3.mk (cf .f32 r214) (cf .f32 r139) (cf .f32 r141))))]) ∧ cf .f32 r_1 = vbtG A_g (V3.mk (cf .f32 r214) (cf .f32 r139) (cf .f32 r141))),
    Fact.pure [61] (fun v => ∃ r_1 : Nat, v = (Fl r_1) ∧ cf .f32 r_1 = vbtG A_g (V3.mk (cf .f32 r214) (cf .f32 r139) (cf .f32 r141))),
    Fact.flt [61] (fun v => v = (Bo β3))]) mixed (by kernel_rfl) (by intro _ _ d _ _ h; cases d <;> exact h) ?_
  obtain ⟨w241, hw243⟩ : ∃ w', w' = World.drew w232 := ⟨_, rfl⟩; rw [← hw243]; have E242 : Ext w232 w241 := by rw [hw243]; exact Ext.draw _
  clear hw243
  have X244 := Ext.gr X237 E242
  refine RW_d _ rfl (fun v => by dsimp only [List.set]; try rfl) (fun u hu hF => ?_) (fun v245 => ?_)
  · clear hF
    refine doesG_un rfl ?_
    refine (does_loadAgg (cs := [(Fl r1), (Fl r3), (Fl r5), (Fl r7), (Iv A_g.x), (Iv A_g.y), (Iv A_g.z), (.slice p17 A_g.vals.length q18)]) (ev rfl) Try.isAgg33 Try.sizeOf33 (Blk.cells ((((((((((((((((((((((hB23.ext E31).ext E39).ext E56).ext E74).wr W81 (Nat.ne_of_lt n76)).ext E95).wr W103 (Nat.ne_of_lt n97)).wr W108 (Nat.ne_of_lt n97)).ext E114).kl E124 nin0).wr W162 (Nat.ne_of_lt n146)).wr W166 (Nat.ne_of_lt n155)).ext E172).ext E184).wr W191 (Nat.ne_of_lt n146)).ext E197).ext E209).wr W216 (Nat.ne_of_lt n155)).ext E222).ext E233).ext E242).ext hu)) rfl).mono ?_; rintro _ _ ⟨rfl, rfl⟩
    exact ⟨rfl, Ext.refl _⟩
  refine RW_d _ rfl (fun v => by dsimp only [List.set]; try rfl) (fun u hu hF => ?_) (fun v246 => ?_)
  · clear hF
    refine doesG_un rfl ?_
    refine (does_loadAgg (cs := [(Fl r214), (Fl r139), (Fl r141)]) (ev rfl) Try.isAgg54 Try.sizeOf54 (Blk.cells ((((hB217.ext E222).ext E233).ext E242).ext hu)) rfl).mono ?_; rintro _ _ ⟨rfl, rfl⟩
    exact ⟨rfl, Ext.refl _⟩
  refine RW_d _ rfl (fun v => by dsimp only [List.set]; try rfl) (fun u hu hF => ?_) (fun v247 => ?_)
  · have h63_ : v246 = (.agg #[(Fl r214), (Fl r139), (Fl r141)]) := hF.1
    clear hF
    refine doesG_un rfl ?_
    obtain rfl := h63_
    refine (does_call (args := #[(.agg #[(Fl r214), (Fl r139), (Fl r141)])]) cal27 (evs rfl) (c_impl_vectorOf r214 r139 r141 _)).mono ?_; rintro v u' ⟨hx, ⟨csn1, hv, k0⟩⟩
    exact ⟨⟨csn1, hv, k0⟩, hx⟩
  refine RW_d _ rfl (fun v => by dsimp only [List.set]; try rfl) (fun u hu hF => ?_) (fun v248 => ?_)
  · have h62_ : v245 = (.agg #[(Fl r1), (Fl r3), (Fl r5), (Fl r7), (Iv A_g.x), (Iv A_g.y), (Iv A_g.z), (.slice p17 A_g.vals.length q18)]) := hF.1
    have h64_ : ∃ cs_1 : List Value, v247 = (.agg cs_1.toArray) ∧ RV3 w (V3.mk (cf .f32 r214) (cf .f32 r139) (cf .f32 r141)) cs_1 := hF.2.1
    clear hF
    refine doesG_un rfl ?_
    obtain rfl := h62_
    obtain ⟨_, rfl, ⟨r64_1, r64_3, r64_5, rfl, h64_2, h64_4, h64_6⟩⟩ := h64_
    refine (does_call (args := #[(.agg #[(Fl r1), (Fl r3), (Fl r5), (Fl r7), (Iv A_g.x), (Iv A_g.y), (Iv A_g.z), (.slice p17 A_g.vals.length q18)]), (.agg #[(Fl r64_1), (Fl r64_3), (Fl r64_5)])]) cal9 (evs rfl) (c_impl_ValueBetween [(Fl r1), (Fl r3), (Fl r5), (Fl r7), (Iv A_g.x), (Iv A_g.y), (Iv A_g.z), (.slice p17 A_g.vals.length q18)] A_g [(Fl r64_1), (Fl r64_3), (Fl r64_5)] (V3.mk (cf .f32 r214) (cf .f32 r139) (cf .f32 r141)) _ ⟨r1, r3, r5, r7, (.slice p17 A_g.vals.length q18), rfl, h2, h4, h6, h8, (Sl.ext (Sl.ext hs19 RF.mono (Ext.gr X237 E242)) RF.mono hu)⟩ ⟨r64_1, r64_3, r64_5, rfl, (by assumption), (by assumption), (by assumption)⟩)).mono ?_; rintro v u' ⟨hx, ⟨rn1, hv, k0⟩⟩
    exact ⟨⟨rn1, hv.trans (by simp only [h64_2, h64_4, h64_6]), (by simp only [k0, h64_2, h64_4, h64_6])⟩, hx⟩
  refine RW_d _ rfl (fun v => by dsimp only [List.set]; try rfl) (fun u hu hF => ?_) (fun v249 => ?_)
  · have h65_ : ∃ r_1 : Nat, v248 = (.tuple #[(Fl r_1), (Bo (vbtOk A_g (V3.mk (cf .f32 r214) (cf .f32 r139) (cf .f32 r141))))]) ∧ cf .f32 r_1 = vbtG A_g (V3.mk (cf .f32 r214) (cf .f32 r139) (cf .f32 r141)) := hF.1
    clear hF
    refine doesG_un rfl ?_
    obtain ⟨r65_1, rfl, h65_2⟩ := h65_
    refine (does_move (u := (.tuple #[(Fl r65_1), (Bo (vbtOk A_g (V3.mk (cf .f32 r214) (cf .f32 r139) (cf .f32 r141))))])) (ev rfl)).mono ?_; rintro _ _ ⟨rfl, rfl⟩
    exact ⟨⟨r65_1, rfl, (by simp only [h65_2])⟩, Ext.refl _⟩
  refine RW_d _ rfl (fun v => by dsimp only [List.set]; try rfl) (fun u hu hF => ?_) (fun v250 => ?_)
  · have h61_ : ∃ r_1 : Nat, v249 = (.tuple #[(Fl r_1), (Bo (vbtOk A_g (V3.mk (cf .f32 r214) (cf .f32 r139) (cf .f32 r141))))]) ∧ cf .f32 r_1 = vbtG A_g (V3.mk (cf .f32 r214) (cf .f32 r139) (cf .f32 r141)) := hF.1
    clear hF
    refine doesG_un rfl ?_
    obtain ⟨r61_1, rfl, h61_2⟩ := h61_
    refine (does_extract (vs := #[(Fl r61_1), (Bo (vbtOk A_g (V3.mk (cf .f32 r214) (cf .f32 r139) (cf .f32 r141))))]) (u := (Fl r61_1)) (ev rfl) rfl).mono ?_; rintro _ _ ⟨rfl, rfl⟩
    exact ⟨⟨r61_1, rfl, (by simp only [h61_2])⟩, Ext.refl _⟩
  refine RW_d _ rfl (fun v => by dsimp only [List.set]; try rfl) (fun u hu hF => ?_) (fun v251 => ?_)
  · have h61_ : ∃ r_1 : Nat, v249 = (.tuple #[(Fl r_1), (Bo (vbtOk A_g (V3.mk (cf .f32 r214) (cf .f32 r139) (cf .f32 r141))))]) ∧ cf .f32 r_1 = vbtG A_g (V3.mk (cf .f32 r214) (cf .f32 r139) (cf .f32 r141)) := hF.1
    clear hF
    obtain ⟨r61_1, rfl, h61_2⟩ := h61_
    exact ⟨_, yields_is rfl (run_extract (ev rfl) rfl), (by first | rfl | (show _ = _; simp only [hβ3, h61_2]; done) | (show _ = _; simp only [hβ3, h61_2]; rfl))⟩
  refine RW_fin ?_; intro w252 E253 hP254
  obtain ⟨⟨⟨⟨⟨⟨⟨-, -⟩, -⟩, -⟩, -⟩, -⟩, q255⟩, q256⟩ := hP254
  have X257 := Ext.gr X244 E253
  have q255 : ∃ r_1 : Nat, v250 = (Fl r_1) ∧ cf .f32 r_1 = vbtG A_g (V3.mk (cf .f32 r214) (cf .f32 r139) (cf .f32 r141)) := q255
  obtain ⟨r258, rfl, h259⟩ := q255
  have q256 : v251 = (Bo β3) := q256
  obtain rfl := q256
  show wpList _ _ _ _ (fr [_, _, _, _, _, _, _, _, _, _, _, _, _, _, _, _, _, _, _, _, _, _, _, _, _, _, _, _, _, _, _, _, _, _, _, _, _, _, _, _, _, _, _, _, _, _, _, _, _, _, _, _, _, _, _, _, _, _, _, _, _, _, _, _, _, _, _, _, _, _, _, _, _, _, _, _, _, _, _, _, _, _, _, _, _, _, _, _, _, _]) _
  refine q_is rfl rfl (does_assign (u := (Fl r258)) (ev rfl)) (by dsimp only [List.set]; try rfl) ?_
  refine q_is rfl rfl (does_assign (u := (Bo β3)) (ev rfl)) (by dsimp only [List.set]; try rfl) ?_
  refine wpList_nil (hK240 _ _ ?_)
  refine wp_seq_k fun K260 hK260 => ?_
  refine region_text (
    [Fact.pure [] (fun v => v = (Bo true)),
    Fact.pure [68] (fun v => v = (Bo true)),
    Fact.pure [69] (fun v => true = true → v = (Bo β2)),
    Fact.pure [69, 70] (fun v => v = (Bo (true && β2))),
    Fact.pure [71] (fun v => v = (Bo (true && β2))),
    Fact.pure [72] (fun v => (true && β2) = true → v = (Bo β3)),
    Fact.pure [72, 73] (fun v => v = (Bo ((true && β2) && β3)))]) (by simp [Fact.pure, Fact.mem]) ?_
  refine RW_d _ rfl (fun v => by dsimp only [List.set]; try rfl) (fun u hu hF => ?_) (fun v261 => ?_)
  · clear hF
    refine doesG_un rfl ?_
    refine (does_move (u := (Bo true)) (ev rfl)).mono ?_; rintro _ _ ⟨rfl, rfl⟩
    exact ⟨rfl, Ext.refl _⟩
  refine RW_d _ rfl (fun v => by dsimp only [List.set]; try rfl) (fun u hu hF => ?_) (fun v262 => ?_)
  · have h68_ : v261 = (Bo true) := hF.1
    clear hF
    refine doesG_un rfl ?_
    obtain rfl := h68_
    refine (does_move (u := (Bo true)) (ev rfl)).mono ?_; rintro _ _ ⟨rfl, rfl⟩
    exact ⟨rfl, Ext.refl _⟩
  refine RW_d _ rfl (fun v => by dsimp only [List.set]; try rfl) (fun u hu hF => ?_) (fun v263 => ?_)
  · have h69_ : v262 = (Bo true) := hF.1
    clear hF
    obtain rfl := h69_
    refine doesG_g (b := true) rfl (yld rfl rfl) (fun hg1 => ?_) (fun hc => ⟨fun hg1 => absurd hg1 hc, Ext.refl _⟩)
    refine (does_move (u := (Bo β2)) (ev rfl)).mono ?_; rintro _ _ ⟨rfl, rfl⟩
    exact ⟨fun _ => rfl, Ext.refl _⟩
  refine RW_d _ rfl (fun v => by dsimp only [List.set]; try rfl) (fun u hu hF => ?_) (fun v264 => ?_)
  · have h69_ : v262 = (Bo true) := hF.1
    have h70_ : true = true → v263 = (Bo β2) := hF.2.1
    clear hF
    refine doesG_un rfl ?_
    skip
    obtain rfl := h69_
    refine (does_pick (b := true) (ev rfl) (ev rfl) (ev rfl)).mono ?_; rintro _ _ ⟨rfl, rfl⟩; refine ⟨?_, Ext.refl _⟩; skip
    cases hbb : true
    all_goals first | rfl | (have e_ := h70_ hbb; subst e_; rfl) | (simp [hbb] at h70_ ⊢; first | done | rfl | (subst h70_; rfl) | simp_all) | (simp [hbb] at h70_ ⊢; done)
  refine RW_d _ rfl (fun v => by dsimp only [List.set]; try rfl) (fun u hu hF => ?_) (fun v265 => ?_)
  · have h71_ : v264 = (Bo (true && β2)) := hF.1
    clear hF
    refine doesG_un rfl ?_
    obtain rfl := h71_
    refine (does_move (u := (Bo (true && β2))) (ev rfl)).mono ?_; rintro _ _ ⟨rfl, rfl⟩
    exact ⟨rfl, Ext.refl _⟩
  refine RW_d _ rfl (fun v => by dsimp only [List.set]; try rfl) (fun u hu hF => ?_) (fun v266 => ?_)
  · have h72_ : v265 = (Bo (true && β2)) := hF.1
    clear hF
    obtain rfl := h72_
    refine doesG_g (b := (true && β2)) rfl (yld rfl rfl) (fun hg1 => ?_) (fun hc => ⟨fun hg1 => absurd hg1 hc, Ext.refl _⟩)
    refine (does_move (u := (Bo β3)) (ev rfl)).mono ?_; rintro _ _ ⟨rfl, rfl⟩
    exact ⟨fun _ => rfl, Ext.refl _⟩
  refine RW_d _ rfl (fun v => by dsimp only [List.set]; try rfl) (fun u hu hF => ?_) (fun v267 => ?_)
  · have h72_ : v265 = (Bo (true && β2)) := hF.1
    have h73_ : (true && β2) = true → v266 = (Bo β3) := hF.2.1
    clear hF
    refine doesG_un rfl ?_
    skip
    obtain rfl := h72_
    refine (does_pick (b := (true && β2)) (ev rfl) (ev rfl) (ev rfl)).mono ?_; rintro _ _ ⟨rfl, rfl⟩; refine ⟨?_, Ext.refl _⟩; skip
    cases hbb : (true && β2)
    all_goals first | rfl | (have e_ := h73_ hbb; subst e_; rfl) | (simp [hbb] at h73_ ⊢; first | done | rfl | (subst h73_; rfl) | simp_all) | (simp [hbb] at h73_ ⊢; done)
  refine RW_fin ?_; intro w268 E269 hP270
  obtain ⟨⟨⟨⟨⟨⟨⟨-, -⟩, -⟩, -⟩, -⟩, -⟩, -⟩, q271⟩ := hP270
  have X272 := Ext.gr X257 E269
  have q271 : v267 = (Bo ((true && β2) && β3)) := q271
  obtain rfl := q271
  show wpList _ _ _ _ (fr [_, _, _, _, _, _, _, _, _, _, _, _, _, _, _, _, _, _, _, _, _, _, _, _, _, _, _, _, _, _, _, _, _, _, _, _, _, _, _, _, _, _, _, _, _, _, _, _, _, _, _, _, _, _, _, _, _, _, _, _, _, _, _, _, _, _, _, _, _, _, _, _, _, _, _, _, _, _, _, _, _, _, _, _, _, _, _, _, _, _]) _
  refine q_is rfl rfl (does_assign (u := (Bo ((true && β2) && β3))) (ev rfl)) (by dsimp only [List.set]; try rfl) ?_
  refine wpList_nil (hK260 _ _ ?_)
  refine wp_region_lit ?_
  refine q_is rfl rfl (does_move (u := (Iv 0)) (ev rfl)) (by dsimp only [List.set]; try rfl) ?_
  refine q_is rfl rfl (does_move (u := (Fl r238)) (ev rfl)) (by dsimp only [List.set]; try rfl) ?_
  refine q_is rfl rfl (does_move (u := (Fl r258)) (ev rfl)) (by dsimp only [List.set]; try rfl) ?_
  refine seqd rfl rfl (does_float (.inr (.inl rfl)) (ev rfl) (ev rfl)) ?_; rintro _ w276 ⟨r273, rfl, h274, E275⟩
  have X277 := Ext.gr X272 E275
  show wpList _ _ _ _ (fr [_, _, _, _, _, _, _, _, _, _, _, _, _, _, _, _, _, _, _, _, _, _, _, _, _, _, _, _, _, _, _, _, _, _, _, _, _, _, _, _, _, _, _, _, _, _, _, _, _, _, _, _, _, _, _, _, _, _, _, _, _, _, _, _, _, _, _, _, _, _, _, _, _, _, _, _, _, _, _, _, _, _, _, _, _, _, _, _, _, _]) _
  refine q_is rfl rfl (does_fieldAddr (ev rfl) fa33_1) (by dsimp only [List.set]; try rfl) ?_
  refine q_is rfl rfl (does_load (u := (Fl r7)) (ev rfl) Try.isAgg22 (Cells.at (Blk.cells ((((((((((((((((((((((((hB23.ext E31).ext E39).ext E56).ext E74).wr W81 (Nat.ne_of_lt n76)).ext E95).wr W103 (Nat.ne_of_lt n97)).wr W108 (Nat.ne_of_lt n97)).ext E114).kl E124 nin0).wr W162 (Nat.ne_of_lt n146)).wr W166 (Nat.ne_of_lt n155)).ext E172).ext E184).wr W191 (Nat.ne_of_lt n146)).ext E197).ext E209).wr W216 (Nat.ne_of_lt n155)).ext E222).ext E233).ext E242).ext E253).ext E269).ext E275)) 3 rfl)) (by dsimp only [List.set]; try rfl) ?_
  refine seqd rfl rfl (does_float (.inr (.inr (.inl rfl))) (ev rfl) (ev rfl)) ?_; rintro _ w281 ⟨r278, rfl, h279, E280⟩
  have X282 := Ext.gr X277 E280
  show wpList _ _ _ _ (fr [_, _, _, _, _, _, _, _, _, _, _, _, _, _, _, _, _, _, _, _, _, _, _, _, _, _, _, _, _, _, _, _, _, _, _, _, _, _, _, _, _, _, _, _, _, _, _, _, _, _, _, _, _, _, _, _, _, _, _, _, _, _, _, _, _, _, _, _, _, _, _, _, _, _, _, _, _, _, _, _, _, _, _, _, _, _, _, _, _, _]) _
  refine seqd rfl rfl (does_float (.inr (.inr (.inr rfl))) (ev rfl) (ev rfl)) ?_; rintro _ w286 ⟨r283, rfl, h284, E285⟩
  have X287 := Ext.gr X282 E285
  show wpList _ _ _ _ (fr [_, _, _, _, _, _, _, _, _, _, _, _, _, _, _, _, _, _, _, _, _, _, _, _, _, _, _, _, _, _, _, _, _, _, _, _, _, _, _, _, _, _, _, _, _, _, _, _, _, _, _, _, _, _, _, _, _, _, _, _, _, _, _, _, _, _, _, _, _, _, _, _, _, _, _, _, _, _, _, _, _, _, _, _, _, _, _, _, _, _]) _
  refine q_is rfl rfl (does_indexAt_run (r := (Pt b71 0)) (ev rfl) (ev rfl) (fun w => ia54_0 _ _ w)) (by dsimp only [List.set]; try rfl) ?_
  refine seqn rfl rfl (does_store (n := 1) (cs := [(Fl 0), (Fl 0), (Fl 0)]) (u := (Fl r283)) (ev rfl) (ev rfl) Try.sizeOf22 rfl (((((((((((((((((((((hB82.ext E95).wr W103 (Nat.ne_of_lt n100)).wr W108 (Nat.ne_of_lt n100)).ext E114).kl E124 nin0).wr W162 (Nat.ne_of_lt n149)).wr W166 (Nat.ne_of_lt n158)).ext E172).ext E184).wr W191 (Nat.ne_of_lt n149)).ext E197).ext E209).wr W216 (Nat.ne_of_lt n158)).ext E222).ext E233).ext E242).ext E253).ext E269).ext E275).ext E280).ext E285) (Nat.le_of_ble_eq_true rfl) rfl) ?_; rintro _ w290 ⟨rfl, W288, hB289⟩
  change Blk _ _ [(Fl r283), (Fl 0), (Fl 0)] at hB289
  have X291 := Below.wr X287 W288 g79
  refine wpList_nil (hK89 _ _ ?_)
  refine wp_region_lit ?_
  refine q_is rfl rfl (does_iarith (p := 0) (q := 1) (r := (1)) (ev rfl) (ev rfl) (.inl ⟨rfl, rfl⟩)) (by dsimp only [List.set]; try rfl) ?_
  refine q_is rfl rfl (does_move (u := (Iv 1)) (ev rfl)) (by dsimp only [List.set]; try rfl) ?_
  refine wpList_nil ?_
  refine un_step ?_
  refine wp_seq_k fun K292 hK292 => ?_
  refine wp_region_lit ?_
  refine q_is rfl rfl (does_icmp (p := 1) (q := 3) (.inr (.inr (.inl rfl))) (ev rfl) (ev rfl)) (by dsimp only [List.set]; try rfl) ?_
  refine wpList_nil (hK292 _ _ ?_)
  refine wp_seq_k fun K293 hK293 => ?_
  refine wp_cond_true (ev rfl) ?_
  refine wp_skip (hK293 _ _ ?_)
  refine wp_seq_k fun K294 hK294 => ?_
  refine wp_block ?_
  refine wp_seq_k fun K295 hK295 => ?_
  refine wp_region_lit ?_
  refine q_is rfl rfl (does_move (u := (Iv 1)) (ev rfl)) (by dsimp only [List.set]; try rfl) ?_
  refine q_is rfl rfl (does_assign (u := (Iv 1)) (ev rfl)) (by dsimp only [List.set]; try rfl) ?_
  refine wpList_nil (hK295 _ _ ?_)
  refine wp_seq_k fun K296 hK296 => ?_
  refine wp_region_lit ?_
  refine q_is rfl rfl (does_build (parts' := []) (cells := #[(Fl 0), (Fl 0), (Fl 0)]) (evp rfl) (by kernel_rfl)) (by dsimp only [List.set]; try rfl) ?_
  refine seqd rfl rfl (does_alloc z54) ?_; rintro _ w301 ⟨b297, rfl, hb298, hB299, E300⟩
  have n302 : b21 < b297 := Nat.lt_of_lt_of_le (Blk.lt (((((((((((((((((((((((((((hB23.ext E31).ext E39).ext E56).ext E74).wr W81 (Nat.ne_of_lt n76)).ext E95).wr W103 (Nat.ne_of_lt n97)).wr W108 (Nat.ne_of_lt n97)).ext E114).kl E124 nin0).wr W162 (Nat.ne_of_lt n146)).wr W166 (Nat.ne_of_lt n155)).ext E172).ext E184).wr W191 (Nat.ne_of_lt n146)).ext E197).ext E209).wr W216 (Nat.ne_of_lt n155)).ext E222).ext E233).ext E242).ext E253).ext E269).ext E275).ext E280).ext E285).wr W288 (Nat.ne_of_lt n76))) hb298
  have n303 : b28 < b297 := Nat.lt_of_lt_of_le (Blk.lt ((((((((((((((((((((((((((hB30.ext E39).ext E56).ext E74).wr W81 (Nat.ne_of_lt n77)).ext E95).wr W103 (Nat.ne_of_lt n98)).wr W108 (Nat.ne_of_lt n98)).ext E114).kl E124 nin0).wr W162 (Nat.ne_of_lt n147)).wr W166 (Nat.ne_of_lt n156)).ext E172).ext E184).wr W191 (Nat.ne_of_lt n147)).ext E197).ext E209).wr W216 (Nat.ne_of_lt n156)).ext E222).ext E233).ext E242).ext E253).ext E269).ext E275).ext E280).ext E285).wr W288 (Nat.ne_of_lt n77))) hb298
  have n304 : b36 < b297 := Nat.lt_of_lt_of_le (Blk.lt (((((((((((((((((((((((((hB38.ext E56).ext E74).wr W81 (Nat.ne_of_lt n78)).ext E95).wr W103 (Nat.ne_of_lt n99)).wr W108 (Nat.ne_of_lt n99)).ext E114).kl E124 nin0).wr W162 (Nat.ne_of_lt n148)).wr W166 (Nat.ne_of_lt n157)).ext E172).ext E184).wr W191 (Nat.ne_of_lt n148)).ext E197).ext E209).wr W216 (Nat.ne_of_lt n157)).ext E222).ext E233).ext E242).ext E253).ext E269).ext E275).ext E280).ext E285).wr W288 (Nat.ne_of_lt n78))) hb298
  have n305 : b92 < b297 := Nat.lt_of_lt_of_le (Blk.lt (((((((((((((((((((hB109.ext E114).kl E124 nin0).wr W162 (Nat.ne_of_lt n150)).wr W166 (Nat.ne_of_lt n159)).ext E172).ext E184).wr W191 (Nat.ne_of_lt n150)).ext E197).ext E209).wr W216 (Nat.ne_of_lt n159)).ext E222).ext E233).ext E242).ext E253).ext E269).ext E275).ext E280).ext E285).wr W288 (Nat.ne_of_gt n100))) hb298
  have n306 : b143 < b297 := Nat.lt_of_lt_of_le (Blk.lt ((((((((((((hB192.ext E197).ext E209).wr W216 (Ne.symm n161)).ext E222).ext E233).ext E242).ext E253).ext E269).ext E275).ext E280).ext E285).wr W288 (Nat.ne_of_gt n149))) hb298
  have n307 : b152 < b297 := Nat.lt_of_lt_of_le (Blk.lt (((((((((hB217.ext E222).ext E233).ext E242).ext E253).ext E269).ext E275).ext E280).ext E285).wr W288 (Nat.ne_of_gt n158))) hb298
  have n308 : b71 < b297 := Nat.lt_of_lt_of_le (Blk.lt hB289) hb298
  have g309 : w.heap.size ≤ b297 := Nat.le_trans (Below.size X291) hb298
  change Blk _ _ [(Fl 0), (Fl 0), (Fl 0)] at hB299
  have X310 := Ext.gr X291 E300
  show wpList _ _ _ _ (fr [_, _, _, _, _, _, _, _, _, _, _, _, _, _, _, _, _, _, _, _, _, _, _, _, _, _, _, _, _, _, _, _, _, _, _, _, _, _, _, _, _, _, _, _, _, _, _, _, _, _, _, _, _, _, _, _, _, _, _, _, _, _, _, _, _, _, _, _, _, _, _, _, _, _, _, _, _, _, _, _, _, _, _, _, _, _, _, _, _, _]) _
  refine seqn rfl rfl (does_store (n := 3) (cs := [(Fl 0), (Fl 0), (Fl 0)]) (u := (.agg #[(Fl 0), (Fl 0), (Fl 0)])) (ev rfl) (ev rfl) Try.sizeOf54 rfl hB299 (Nat.le_of_ble_eq_true rfl) rfl) ?_; rintro _ w313 ⟨rfl, W311, hB312⟩
  change Blk _ _ [(Fl 0), (Fl 0), (Fl 0)] at hB312
  have X314 := Below.wr X310 W311 g309
  refine wpList_nil (hK296 _ _ ?_)
  refine wp_seq_k fun K315 hK315 => ?_
  refine wp_region_lit ?_
  refine q_is rfl rfl (does_move (u := (Iv 1)) (ev rfl)) (by dsimp only [List.set]; try rfl) ?_
  refine q_is rfl rfl (does_fieldAddr (ev rfl) fa33_1) (by dsimp only [List.set]; try rfl) ?_
  refine q_is rfl rfl (does_load (u := (Fl r7)) (ev rfl) Try.isAgg22 (Cells.at (Blk.cells (((((((((((((((((((((((((((((hB23.ext E31).ext E39).ext E56).ext E74).wr W81 (Nat.ne_of_lt n76)).ext E95).wr W103 (Nat.ne_of_lt n97)).wr W108 (Nat.ne_of_lt n97)).ext E114).kl E124 nin0).wr W162 (Nat.ne_of_lt n146)).wr W166 (Nat.ne_of_lt n155)).ext E172).ext E184).wr W191 (Nat.ne_of_lt n146)).ext E197).ext E209).wr W216 (Nat.ne_of_lt n155)).ext E222).ext E233).ext E242).ext E253).ext E269).ext E275).ext E280).ext E285).wr W288 (Nat.ne_of_lt n76)).ext E300).wr W311 (Nat.ne_of_lt n302))) 3 rfl)) (by dsimp only [List.set]; try rfl) ?_
  refine q_is rfl rfl (does_indexAt_run (r := (Pt b297 1)) (ev rfl) (ev rfl) (fun w => ia54_1 _ _ w)) (by dsimp only [List.set]; try rfl) ?_
  refine seqn rfl rfl (does_store (n := 1) (cs := [(Fl 0), (Fl 0), (Fl 0)]) (u := (Fl r7)) (ev rfl) (ev rfl) Try.sizeOf22 rfl hB312 (Nat.le_of_ble_eq_true rfl) rfl) ?_; rintro _ w318 ⟨rfl, W316, hB317⟩
  change Blk _ _ [(Fl 0), (Fl r7), (Fl 0)] at hB317
  have X319 := Below.wr X314 W316 g309
  refine wpList_nil (hK315 _ _ ?_)
  refine wp_seq_k fun K320 hK320 => ?_
  refine region_any3 [] [4, 5] [0, 1, 0, 7, 0, 0, 63, 127] [] (
    [FactW.pure [] [] [] true (fun v => v = (.agg #[(Fl r11), (Fl r13), (Fl r15)])),
      FactW.pure [0] [] [] true (fun v => ∃ r_1 : Nat, ∃ r_2 : Nat, ∃ r_3 : Nat, v = (.agg #[(Fl r_1), (Fl r_2), (Fl r_3)]) ∧ cf .f32 r_1 = A_p.x ∧ cf .f32 r_2 = A_p.y ∧ cf .f32 r_3 = A_p.z),
      FactW.pure [] [] [] true (fun v => v = (.agg #[(Fl r11), (Fl r13), (Fl r15)])),
      FactW.pure [2] [] [] true (fun v => ∃ r_1 : Nat, ∃ r_2 : Nat, ∃ r_3 : Nat, v = (.agg #[(Fl r_1), (Fl r_2), (Fl r_3)]) ∧ cf .f32 r_1 = A_p.x ∧ cf .f32 r_2 = A_p.y ∧ cf .f32 r_3 = A_p.z),
      FactW.mem [] [] [] [] true (fun v w' => ∃ b : Nat, v = .pointer (some ⟨b, 0, none⟩) ∧ w318.heap.size ≤ b ∧ Blk w' b [(Fl 0), (Fl 0), (Fl 0)]) (by rintro v w1 w2 hx' ⟨b, rfl, hb, hB⟩; have hx := KpL.toExt hx'; exact ⟨b, rfl, hb, (hB.ext hx)⟩),
      FactW.mem [] [] [] [] true (fun v w' => ∃ b : Nat, v = .pointer (some ⟨b, 0, none⟩) ∧ w318.heap.size ≤ b ∧ Blk w' b [(Fl 0), (Fl 0), (Fl 0)]) (by rintro v w1 w2 hx' ⟨b, rfl, hb, hB⟩; have hx := KpL.toExt hx'; exact ⟨b, rfl, hb, (hB.ext hx)⟩)]) mixed (by kernel_rfl) ?_
  obtain ⟨w321, hw323⟩ : ∃ w', w' = World.drew w318 := ⟨_, rfl⟩; rw [← hw323]; have E322 : Ext w318 w321 := by rw [hw323]; exact Ext.draw _
  clear hw323
  have X324 := Ext.gr X319 E322
  refine RW3_d _ rfl rfl (fun v => by dsimp only [List.set]; try rfl) (fun u hu hF => ?_) (fun v325 => ?_)
  · replace hu : KpL [] _ _ := hu
    clear hF
    refine doesG_un rfl ?_
    refine (does_loadAgg (cs := [(Fl r11), (Fl r13), (Fl r15)]) (ev rfl) Try.isAgg31 Try.sizeOf31 (Blk.cells (((((((((((((((((((((((((((((((hB30.ext E39).ext E56).ext E74).wr W81 (Nat.ne_of_lt n77)).ext E95).wr W103 (Nat.ne_of_lt n98)).wr W108 (Nat.ne_of_lt n98)).ext E114).kl E124 nin0).wr W162 (Nat.ne_of_lt n147)).wr W166 (Nat.ne_of_lt n156)).ext E172).ext E184).wr W191 (Nat.ne_of_lt n147)).ext E197).ext E209).wr W216 (Nat.ne_of_lt n156)).ext E222).ext E233).ext E242).ext E253).ext E269).ext E275).ext E280).ext E285).wr W288 (Nat.ne_of_lt n77)).ext E300).wr W311 (Nat.ne_of_lt n303)).wr W316 (Nat.ne_of_lt n303)).ext E322).ext (KpL.toExt hu))) rfl).mono ?_; rintro _ _ ⟨rfl, rfl⟩
    exact ⟨rfl, KpL.refl _ _⟩
  refine RW3_d _ rfl rfl (fun v => by dsimp only [List.set]; try rfl) (fun u hu hF => ?_) (fun v326 => ?_)
  · replace hu : KpL [] _ _ := hu
    have h34_ : v325 = (.agg #[(Fl r11), (Fl r13), (Fl r15)]) := hF.1
    clear hF
    refine doesG_un rfl ?_
    obtain rfl := h34_
    refine (does_call (args := #[(.agg #[(Fl r11), (Fl r13), (Fl r15)])]) cal26 (evs rfl) (c_impl_coordinates [(Fl r11), (Fl r13), (Fl r15)] A_p _ ⟨r11, r13, r15, rfl, h12, h14, h16⟩)).mono ?_; rintro v u' ⟨hx, ⟨rn1, rn2, rn3, hv, k0, k1, k2⟩⟩
    exact ⟨⟨rn1, rn2, rn3, hv, (by simp only [k0]), (by simp only [k1]), (by simp only [k2])⟩, (KpL.of_ext hx)⟩
  refine RW3_d _ rfl rfl (fun v => by dsimp only [List.set]; try rfl) (fun u hu hF => ?_) (fun v327 => ?_)
  · replace hu : KpL [] _ _ := hu
    clear hF
    refine doesG_un rfl ?_
    refine (does_loadAgg (cs := [(Fl r11), (Fl r13), (Fl r15)]) (ev rfl) Try.isAgg31 Try.sizeOf31 (Blk.cells (((((((((((((((((((((((((((((((hB30.ext E39).ext E56).ext E74).wr W81 (Nat.ne_of_lt n77)).ext E95).wr W103 (Nat.ne_of_lt n98)).wr W108 (Nat.ne_of_lt n98)).ext E114).kl E124 nin0).wr W162 (Nat.ne_of_lt n147)).wr W166 (Nat.ne_of_lt n156)).ext E172).ext E184).wr W191 (Nat.ne_of_lt n147)).ext E197).ext E209).wr W216 (Nat.ne_of_lt n156)).ext E222).ext E233).ext E242).ext E253).ext E269).ext E275).ext E280).ext E285).wr W288 (Nat.ne_of_lt n77)).ext E300).wr W311 (Nat.ne_of_lt n303)).wr W316 (Nat.ne_of_lt n303)).ext E322).ext (KpL.toExt hu))) rfl).mono ?_; rintro _ _ ⟨rfl, rfl⟩
    exact ⟨rfl, KpL.refl _ _⟩
  refine RW3_d _ rfl rfl (fun v => by dsimp only [List.set]; try rfl) (fun u hu hF => ?_) (fun v328 => ?_)
  · replace hu : KpL [] _ _ := hu
    have h36_ : v327 = (.agg #[(Fl r11), (Fl r13), (Fl r15)]) := hF.1
    clear hF
    refine doesG_un rfl ?_
    obtain rfl := h36_
    refine (does_call (args := #[(.agg #[(Fl r11), (Fl r13), (Fl r15)])]) cal26 (evs rfl) (c_impl_coordinates [(Fl r11), (Fl r13), (Fl r15)] A_p _ ⟨r11, r13, r15, rfl, h12, h14, h16⟩)).mono ?_; rintro v u' ⟨hx, ⟨rn1, rn2, rn3, hv, k0, k1, k2⟩⟩
    exact ⟨⟨rn1, rn2, rn3, hv, (by simp only [k0]), (by simp only [k1]), (by simp only [k2])⟩, (KpL.of_ext hx)⟩
  refine RW3_b _ rfl rfl (fun v => by dsimp only [List.set]; try rfl) (fun u hu hF => ?_) (fun v329 => ?_)
  · replace hu : KpL [] _ _ := hu
    clear hF
    refine doesG_un rfl ?_
    refine (does_alloc z54).mono ?_; rintro _ _ ⟨b, rfl, hb, hB, hx⟩
    exact ⟨⟨b, rfl, Nat.le_trans (Nat.le_trans (Below.size E322) (KpL.size hu)) hb, hB⟩, (KpL.of_ext hx), ⟨b, rfl, hb, hB.lt⟩⟩
  refine RW3_b _ rfl rfl (fun v => by dsimp only [List.set]; try rfl) (fun u hu hF => ?_) (fun v330 => ?_)
  · replace hu : KpL [] _ _ := hu
    clear hF
    refine doesG_un rfl ?_
    refine (does_alloc z54).mono ?_; rintro _ _ ⟨b, rfl, hb, hB, hx⟩
    exact ⟨⟨b, rfl, Nat.le_trans (Nat.le_trans (Below.size E322) (KpL.size hu)) hb, hB⟩, (KpL.of_ext hx), ⟨b, rfl, hb, hB.lt⟩⟩
  refine RW3_fin ?_; intro w331 E332 hP333 hND; replace E332 : KpL [] _ _ := E332
  obtain ⟨⟨⟨⟨⟨⟨-, -⟩, q334⟩, -⟩, q335⟩, q336⟩, q337⟩ := hP333
  have X338 := Below.kl X324 E332 all0 (Nat.le_refl _)
  have q334 : ∃ r_1 : Nat, ∃ r_2 : Nat, ∃ r_3 : Nat, v326 = (.agg #[(Fl r_1), (Fl r_2), (Fl r_3)]) ∧ cf .f32 r_1 = A_p.x ∧ cf .f32 r_2 = A_p.y ∧ cf .f32 r_3 = A_p.z := q334 rfl
  obtain ⟨r339, r341, r343, rfl, h340, h342, h344⟩ := q334
  have q335 : ∃ r_1 : Nat, ∃ r_2 : Nat, ∃ r_3 : Nat, v328 = (.agg #[(Fl r_1), (Fl r_2), (Fl r_3)]) ∧ cf .f32 r_1 = A_p.x ∧ cf .f32 r_2 = A_p.y ∧ cf .f32 r_3 = A_p.z := q335 rfl
  obtain ⟨r345, r347, r349, rfl, h346, h348, h350⟩ := q335
  have q336 : ∃ b : Nat, v329 = .pointer (some ⟨b, 0, none⟩) ∧ w318.heap.size ≤ b ∧ Blk w331 b [(Fl 0), (Fl 0), (Fl 0)] := q336 rfl
  obtain ⟨b351, rfl, hb352, hB353⟩ := q336
  have n354 : b21 < b351 := Nat.lt_of_lt_of_le (Blk.lt ((((((((((((((((((((((((((((((hB23.ext E31).ext E39).ext E56).ext E74).wr W81 (Nat.ne_of_lt n76)).ext E95).wr W103 (Nat.ne_of_lt n97)).wr W108 (Nat.ne_of_lt n97)).ext E114).kl E124 nin0).wr W162 (Nat.ne_of_lt n146)).wr W166 (Nat.ne_of_lt n155)).ext E172).ext E184).wr W191 (Nat.ne_of_lt n146)).ext E197).ext E209).wr W216 (Nat.ne_of_lt n155)).ext E222).ext E233).ext E242).ext E253).ext E269).ext E275).ext E280).ext E285).wr W288 (Nat.ne_of_lt n76)).ext E300).wr W311 (Nat.ne_of_lt n302)).wr W316 (Nat.ne_of_lt n302))) hb352
  have n355 : b28 < b351 := Nat.lt_of_lt_of_le (Blk.lt (((((((((((((((((((((((((((((hB30.ext E39).ext E56).ext E74).wr W81 (Nat.ne_of_lt n77)).ext E95).wr W103 (Nat.ne_of_lt n98)).wr W108 (Nat.ne_of_lt n98)).ext E114).kl E124 nin0).wr W162 (Nat.ne_of_lt n147)).wr W166 (Nat.ne_of_lt n156)).ext E172).ext E184).wr W191 (Nat.ne_of_lt n147)).ext E197).ext E209).wr W216 (Nat.ne_of_lt n156)).ext E222).ext E233).ext E242).ext E253).ext E269).ext E275).ext E280).ext E285).wr W288 (Nat.ne_of_lt n77)).ext E300).wr W311 (Nat.ne_of_lt n303)).wr W316 (Nat.ne_of_lt n303))) hb352
  have n356 : b36 < b351 := Nat.lt_of_lt_of_le (Blk.lt ((((((((((((((((((((((((((((hB38.ext E56).ext E74).wr W81 (Nat.ne_of_lt n78)).ext E95).wr W103 (Nat.ne_of_lt n99)).wr W108 (Nat.ne_of_lt n99)).ext E114).kl E124 nin0).wr W162 (Nat.ne_of_lt n148)).wr W166 (Nat.ne_of_lt n157)).ext E172).ext E184).wr W191 (Nat.ne_of_lt n148)).ext E197).ext E209).wr W216 (Nat.ne_of_lt n157)).ext E222).ext E233).ext E242).ext E253).ext E269).ext E275).ext E280).ext E285).wr W288 (Nat.ne_of_lt n78)).ext E300).wr W311 (Nat.ne_of_lt n304)).wr W316 (Nat.ne_of_lt n304))) hb352
  have n357 : b92 < b351 := Nat.lt_of_lt_of_le (Blk.lt ((((((((((((((((((((((hB109.ext E114).kl E124 nin0).wr W162 (Nat.ne_of_lt n150)).wr W166 (Nat.ne_of_lt n159)).ext E172).ext E184).wr W191 (Nat.ne_of_lt n150)).ext E197).ext E209).wr W216 (Nat.ne_of_lt n159)).ext E222).ext E233).ext E242).ext E253).ext E269).ext E275).ext E280).ext E285).wr W288 (Nat.ne_of_gt n100)).ext E300).wr W311 (Nat.ne_of_lt n305)).wr W316 (Nat.ne_of_lt n305))) hb352
  have n358 : b143 < b351 := Nat.lt_of_lt_of_le (Blk.lt (((((((((((((((hB192.ext E197).ext E209).wr W216 (Ne.symm n161)).ext E222).ext E233).ext E242).ext E253).ext E269).ext E275).ext E280).ext E285).wr W288 (Nat.ne_of_gt n149)).ext E300).wr W311 (Nat.ne_of_lt n306)).wr W316 (Nat.ne_of_lt n306))) hb352
  have n359 : b152 < b351 := Nat.lt_of_lt_of_le (Blk.lt ((((((((((((hB217.ext E222).ext E233).ext E242).ext E253).ext E269).ext E275).ext E280).ext E285).wr W288 (Nat.ne_of_gt n158)).ext E300).wr W311 (Nat.ne_of_lt n307)).wr W316 (Nat.ne_of_lt n307))) hb352
  have n360 : b71 < b351 := Nat.lt_of_lt_of_le (Blk.lt (((hB289.ext E300).wr W311 (Nat.ne_of_lt n308)).wr W316 (Nat.ne_of_lt n308))) hb352
  have n361 : b297 < b351 := Nat.lt_of_lt_of_le (Blk.lt hB317) hb352
  have g362 : w.heap.size ≤ b351 := Nat.le_trans (Below.size X319) hb352
  have q337 : ∃ b : Nat, v330 = .pointer (some ⟨b, 0, none⟩) ∧ w318.heap.size ≤ b ∧ Blk w331 b [(Fl 0), (Fl 0), (Fl 0)] := q337 rfl
  obtain ⟨b363, rfl, hb364, hB365⟩ := q337
  have n366 : b21 < b363 := Nat.lt_of_lt_of_le (Blk.lt ((((((((((((((((((((((((((((((hB23.ext E31).ext E39).ext E56).ext E74).wr W81 (Nat.ne_of_lt n76)).ext E95).wr W103 (Nat.ne_of_lt n97)).wr W108 (Nat.ne_of_lt n97)).ext E114).kl E124 nin0).wr W162 (Nat.ne_of_lt n146)).wr W166 (Nat.ne_of_lt n155)).ext E172).ext E184).wr W191 (Nat.ne_of_lt n146)).ext E197).ext E209).wr W216 (Nat.ne_of_lt n155)).ext E222).ext E233).ext E242).ext E253).ext E269).ext E275).ext E280).ext E285).wr W288 (Nat.ne_of_lt n76)).ext E300).wr W311 (Nat.ne_of_lt n302)).wr W316 (Nat.ne_of_lt n302))) hb364
  have n367 : b28 < b363 := Nat.lt_of_lt_of_le (Blk.lt (((((((((((((((((((((((((((((hB30.ext E39).ext E56).ext E74).wr W81 (Nat.ne_of_lt n77)).ext E95).wr W103 (Nat.ne_of_lt n98)).wr W108 (Nat.ne_of_lt n98)).ext E114).kl E124 nin0).wr W162 (Nat.ne_of_lt n147)).wr W166 (Nat.ne_of_lt n156)).ext E172).ext E184).wr W191 (Nat.ne_of_lt n147)).ext E197).ext E209).wr W216 (Nat.ne_of_lt n156)).ext E222).ext E233).ext E242).ext E253).ext E269).ext E275).ext E280).ext E285).wr W288 (Nat.ne_of_lt n77)).ext E300).wr W311 (Nat.ne_of_lt n303)).wr W316 (Nat.ne_of_lt n303))) hb364
  have n368 : b36 < b363 := Nat.lt_of_lt_of_le (Blk.lt ((((((((((((((((((((((((((((hB38.ext E56).ext E74).wr W81 (Nat.ne_of_lt n78)).ext E95).wr W103 (Nat.ne_of_lt n99)).wr W108 (Nat.ne_of_lt n99)).ext E114).kl E124 nin0).wr W162 (Nat.ne_of_lt n148)).wr W166 (Nat.ne_of_lt n157)).ext E172).ext E184).wr W191 (Nat.ne_of_lt n148)).ext E197).ext E209).wr W216 (Nat.ne_of_lt n157)).ext E222).ext E233).ext E242).ext E253).ext E269).ext E275).ext E280).ext E285).wr W288 (Nat.ne_of_lt n78)).ext E300).wr W311 (Nat.ne_of_lt n304)).wr W316 (Nat.ne_of_lt n304))) hb364
  have n369 : b92 < b363 := Nat.lt_of_lt_of_le (Blk.lt ((((((((((((((((((((((hB109.ext E114).kl E124 nin0).wr W162 (Nat.ne_of_lt n150)).wr W166 (Nat.ne_of_lt n159)).ext E172).ext E184).wr W191 (Nat.ne_of_lt n150)).ext E197).ext E209).wr W216 (Nat.ne_of_lt n159)).ext E222).ext E233).ext E242).ext E253).ext E269).ext E275).ext E280).ext E285).wr W288 (Nat.ne_of_gt n100)).ext E300).wr W311 (Nat.ne_of_lt n305)).wr W316 (Nat.ne_of_lt n305))) hb364
  have n370 : b143 < b363 := Nat.lt_of_lt_of_le (Blk.lt (((((((((((((((hB192.ext E197).ext E209).wr W216 (Ne.symm n161)).ext E222).ext E233).ext E242).ext E253).ext E269).ext E275).ext E280).ext E285).wr W288 (Nat.ne_of_gt n149)).ext E300).wr W311 (Nat.ne_of_lt n306)).wr W316 (Nat.ne_of_lt n306))) hb364
  have n371 : b152 < b363 := Nat.lt_of_lt_of_le (Blk.lt ((((((((((((hB217.ext E222).ext E233).ext E242).ext E253).ext E269).ext E275).ext E280).ext E285).wr W288 (Nat.ne_of_gt n158)).ext E300).wr W311 (Nat.ne_of_lt n307)).wr W316 (Nat.ne_of_lt n307))) hb364
  have n372 : b71 < b363 := Nat.lt_of_lt_of_le (Blk.lt (((hB289.ext E300).wr W311 (Nat.ne_of_lt n308)).wr W316 (Nat.ne_of_lt n308))) hb364
  have n373 : b297 < b363 := Nat.lt_of_lt_of_le (Blk.lt hB317) hb364
  have g374 : w.heap.size ≤ b363 := Nat.le_trans (Below.size X319) hb364
  have n375 : b363 ≠ b351 := by intro h; subst h; simp at hND
  clear hND
  show wpList _ _ _ _ (fr [_, _, _, _, _, _, _, _, _, _, _, _, _, _, _, _, _, _, _, _, _, _, _, _, _, _, _, _, _, _, _, _, _, _, _, _, _, _, _, _, _, _, _, _, _, _, _, _, _, _, _, _, _, _, _, _, _, _, _, _, _, _, _, _, _, _, _, _, _, _, _, _, _, _, _, _, _, _, _, _, _, _, _, _, _, _, _, _, _, _]) _
  refine seqn rfl rfl (does_store (n := 3) (cs := [(Fl 0), (Fl 0), (Fl 0)]) (u := (.agg #[(Fl r339), (Fl r341), (Fl r343)])) (ev rfl) (ev rfl) Try.sizeOf54 rfl hB353 (Nat.le_of_ble_eq_true rfl) rfl) ?_; rintro _ w378 ⟨rfl, W376, hB377⟩
  change Blk _ _ [(Fl r339), (Fl r341), (Fl r343)] at hB377
  have X379 := Below.wr X338 W376 g362
  refine seqn rfl rfl (does_store (n := 3) (cs := [(Fl 0), (Fl 0), (Fl 0)]) (u := (.agg #[(Fl r345), (Fl r347), (Fl r349)])) (ev rfl) (ev rfl) Try.sizeOf54 rfl (hB365.wr W376 n375) (Nat.le_of_ble_eq_true rfl) rfl) ?_; rintro _ w382 ⟨rfl, W380, hB381⟩
  change Blk _ _ [(Fl r345), (Fl r347), (Fl r349)] at hB381
  have X383 := Below.wr X379 W380 g374
  refine wpList_nil (hK320 _ _ ?_)
  refine wp_seq_k fun K384 hK384 => ?_
  refine region_draw (
    [Fact.pure [] (fun v => v = (Iv 1)),
    Fact.pure [38] (fun v => v = (Pt b351 1)),
    Fact.pure [39] (fun v => v = (Fl r341)),
    Fact.pure [] (fun v => v = (Iv 1)),
    Fact.pure [41] (fun v => v = (Pt b297 1)),
    Fact.pure [42] (fun v => v = (Fl r7)),
    Fact.pure [40, 43] (fun v => ∃ r_1 : Nat, v = (Fl r_1) ∧ cf .f32 r_1 = fop .add .f32 (cf .f32 r341) (cf .f32 r7)),
    Fact.pure [38] (fun v => v = (Pt b351 1))]) mixed (by kernel_rfl) (by intro _ _ d _ _ h; cases d <;> exact h) ?_
  obtain ⟨w385, hw387⟩ : ∃ w', w' = World.drew w382 := ⟨_, rfl⟩; rw [← hw387]; have E386 : Ext w382 w385 := by rw [hw387]; exact Ext.draw _
  clear hw387
  have X388 := Ext.gr X383 E386
  refine RW_d _ rfl (fun v => by dsimp only [List.set]; try rfl) (fun u hu hF => ?_) (fun v389 => ?_)
  · clear hF
    refine doesG_un rfl ?_
    refine (does_move (u := (Iv 1)) (ev rfl)).mono ?_; rintro _ _ ⟨rfl, rfl⟩
    exact ⟨rfl, Ext.refl _⟩
  refine RW_d _ rfl (fun v => by dsimp only [List.set]; try rfl) (fun u hu hF => ?_) (fun v390 => ?_)
  · have h38_ : v389 = (Iv 1) := hF.1
    clear hF
    refine doesG_un rfl ?_
    obtain rfl := h38_
    refine (does_indexAt_run (r := (Pt b351 1)) (ev rfl) (ev rfl) (fun w => ia54_1 _ _ w)).mono ?_; rintro _ _ ⟨rfl, rfl⟩
    exact ⟨rfl, Ext.refl _⟩
  refine RW_d _ rfl (fun v => by dsimp only [List.set]; try rfl) (fun u hu hF => ?_) (fun v391 => ?_)
  · have h39_ : v390 = (Pt b351 1) := hF.1
    clear hF
    refine doesG_un rfl ?_
    obtain rfl := h39_
    refine (does_load (u := (Fl r341)) (ev rfl) Try.isAgg22 (Cells.at (Blk.cells (((hB377.wr W380 (Ne.symm n375)).ext E386).ext hu)) 1 rfl)).mono ?_; rintro _ _ ⟨rfl, rfl⟩
    exact ⟨rfl, Ext.refl _⟩
  refine RW_d _ rfl (fun v => by dsimp only [List.set]; try rfl) (fun u hu hF => ?_) (fun v392 => ?_)
  · clear hF
    refine doesG_un rfl ?_
    refine (does_move (u := (Iv 1)) (ev rfl)).mono ?_; rintro _ _ ⟨rfl, rfl⟩
    exact ⟨rfl, Ext.refl _⟩
  refine RW_d _ rfl (fun v => by dsimp only [List.set]; try rfl) (fun u hu hF => ?_) (fun v393 => ?_)
  · have h41_ : v392 = (Iv 1) := hF.1
    clear hF
    refine doesG_un rfl ?_
    obtain rfl := h41_
    refine (does_indexAt_run (r := (Pt b297 1)) (ev rfl) (ev rfl) (fun w => ia54_1 _ _ w)).mono ?_; rintro _ _ ⟨rfl, rfl⟩
    exact ⟨rfl, Ext.refl _⟩
  refine RW_d _ rfl (fun v => by dsimp only [List.set]; try rfl) (fun u hu hF => ?_) (fun v394 => ?_)
  · have h42_ : v393 = (Pt b297 1) := hF.1
    clear hF
    refine doesG_un rfl ?_
    obtain rfl := h42_
    refine (does_load (u := (Fl r7)) (ev rfl) Try.isAgg22 (Cells.at (Blk.cells ((((((hB317.ext E322).kl E332 nin0).wr W376 (Nat.ne_of_lt n361)).wr W380 (Nat.ne_of_lt n373)).ext E386).ext hu)) 1 rfl)).mono ?_; rintro _ _ ⟨rfl, rfl⟩
    exact ⟨rfl, Ext.refl _⟩
  refine RW_d _ rfl (fun v => by dsimp only [List.set]; try rfl) (fun u hu hF => ?_) (fun v395 => ?_)
  · have h40_ : v391 = (Fl r341) := hF.1
    have h43_ : v394 = (Fl r7) := hF.2.1
    clear hF
    refine doesG_un rfl ?_
    obtain rfl := h40_
    obtain rfl := h43_
    refine (does_float (.inl rfl) (ev rfl) (ev rfl)).mono ?_; rintro _ _ ⟨r, rfl, hr, hx⟩
    exact ⟨⟨r, rfl, (by simp only [hr])⟩, hx⟩
  refine RW_d _ rfl (fun v => by dsimp only [List.set]; try rfl) (fun u hu hF => ?_) (fun v396 => ?_)
  · have h38_ : v389 = (Iv 1) := hF.1
    clear hF
    refine doesG_un rfl ?_
    obtain rfl := h38_
    refine (does_indexAt_run (r := (Pt b351 1)) (ev rfl) (ev rfl) (fun w => ia54_1 _ _ w)).mono ?_; rintro _ _ ⟨rfl, rfl⟩
    exact ⟨rfl, Ext.refl _⟩
  refine RW_fin ?_; intro w397 E398 hP399
  obtain ⟨⟨⟨⟨⟨⟨⟨⟨-, -⟩, -⟩, -⟩, -⟩, -⟩, -⟩, q400⟩, q401⟩ := hP399
  have X402 := Ext.gr X388 E398
  have q400 : ∃ r_1 : Nat, v395 = (Fl r_1) ∧ cf .f32 r_1 = fop .add .f32 (cf .f32 r341) (cf .f32 r7) := q400
  obtain ⟨r403, rfl, h404⟩ := q400
  have q401 : v396 = (Pt b351 1) := q401
  obtain rfl := q401
  show wpList _ _ _ _ (fr [_, _, _, _, _, _, _, _, _, _, _, _, _, _, _, _, _, _, _, _, _, _, _, _, _, _, _, _, _, _, _, _, _, _, _, _, _, _, _, _, _, _, _, _, _, _, _, _, _, _, _, _, _, _, _, _, _, _, _, _, _, _, _, _, _, _, _, _, _, _, _, _, _, _, _, _, _, _, _, _, _, _, _, _, _, _, _, _, _, _]) _
  refine seqn rfl rfl (does_store (n := 1) (cs := [(Fl r339), (Fl r341), (Fl r343)]) (u := (Fl r403)) (ev rfl) (ev rfl) Try.sizeOf22 rfl (((hB377.wr W380 (Ne.symm n375)).ext E386).ext E398) (Nat.le_of_ble_eq_true rfl) rfl) ?_; rintro _ w407 ⟨rfl, W405, hB406⟩
  change Blk _ _ [(Fl r339), (Fl r403), (Fl r343)] at hB406
  have X408 := Below.wr X402 W405 g362
  refine wpList_nil (hK384 _ _ ?_)
  refine wp_seq_k fun K409 hK409 => ?_
  refine region_draw (
    [Fact.pure [] (fun v => v = (Iv 1)),
    Fact.pure [46] (fun v => v = (Pt b363 1)),
    Fact.pure [47] (fun v => v = (Fl r347)),
    Fact.pure [] (fun v => v = (Iv 1)),
    Fact.pure [49] (fun v => v = (Pt b297 1)),
    Fact.pure [50] (fun v => v = (Fl r7)),
    Fact.pure [48, 51] (fun v => ∃ r_1 : Nat, v = (Fl r_1) ∧ cf .f32 r_1 = fop .sub .f32 (cf .f32 r347) (cf .f32 r7)),
    Fact.pure [46] (fun v => v = (Pt b363 1))]) mixed (by kernel_rfl) (by intro _ _ d _ _ h; cases d <;> exact h) ?_
  obtain ⟨w410, hw412⟩ : ∃ w', w' = World.drew w407 := ⟨_, rfl⟩; rw [← hw412]; have E411 : Ext w407 w410 := by rw [hw412]; exact Ext.draw _
  clear hw412
  have X413 := Ext.gr X408 E411
  refine RW_d _ rfl (fun v => by dsimp only [List.set]; try rfl) (fun u hu hF => ?_) (fun v414 => ?_)
  · clear hF
    refine doesG_un rfl ?_
    refine (does_move (u := (Iv 1)) (ev rfl)).mono ?_; rintro _ _ ⟨rfl, rfl⟩
    exact ⟨rfl, Ext.refl _⟩
  refine RW_d _ rfl (fun v => by dsimp only [List.set]; try rfl) (fun u hu hF => ?_) (fun v415 => ?_)
  · have h46_ : v414 = (Iv 1) := hF.1
    clear hF
    refine doesG_un rfl ?_
    obtain rfl := h46_
    refine (does_indexAt_run (r := (Pt b363 1)) (ev rfl) (ev rfl) (fun w => ia54_1 _ _ w)).mono ?_; rintro _ _ ⟨rfl, rfl⟩
    exact ⟨rfl, Ext.refl _⟩
  refine RW_d _ rfl (fun v => by dsimp only [List.set]; try rfl) (fun u hu hF => ?_) (fun v416 => ?_)
  · have h47_ : v415 = (Pt b363 1) := hF.1
    clear hF
    refine doesG_un rfl ?_
    obtain rfl := h47_
    refine (does_load (u := (Fl r347)) (ev rfl) Try.isAgg22 (Cells.at (Blk.cells (((((hB381.ext E386).ext E398).wr W405 n375).ext E411).ext hu)) 1 rfl)).mono ?_; rintro _ _ ⟨rfl, rfl⟩
    exact ⟨rfl, Ext.refl _⟩
  refine RW_d _ rfl (fun v => by dsimp only [List.set]; try rfl) (fun u hu hF => ?_) (fun v417 => ?_)
  · clear hF
    refine doesG_un rfl ?_
    refine (does_move (u := (Iv 1)) (ev rfl)).mono ?_; rintro _ _ ⟨rfl, rfl⟩
    exact ⟨rfl, Ext.refl _⟩
  refine RW_d _ rfl (fun v => by dsimp only [List.set]; try rfl) (fun u hu hF => ?_) (fun v418 => ?_)
  · have h49_ : v417 = (Iv 1) := hF.1
    clear hF
    refine doesG_un rfl ?_
    obtain rfl := h49_
    refine (does_indexAt_run (r := (Pt b297 1)) (ev rfl) (ev rfl) (fun w => ia54_1 _ _ w)).mono ?_; rintro _ _ ⟨rfl, rfl⟩
    exact ⟨rfl, Ext.refl _⟩
  refine RW_d _ rfl (fun v => by dsimp only [List.set]; try rfl) (fun u hu hF => ?_) (fun v419 => ?_)
  · have h50_ : v418 = (Pt b297 1) := hF.1
    clear hF
    refine doesG_un rfl ?_
    obtain rfl := h50_
    refine (does_load (u := (Fl r7)) (ev rfl) Try.isAgg22 (Cells.at (Blk.cells (((((((((hB317.ext E322).kl E332 nin0).wr W376 (Nat.ne_of_lt n361)).wr W380 (Nat.ne_of_lt n373)).ext E386).ext E398).wr W405 (Nat.ne_of_lt n361)).ext E411).ext hu)) 1 rfl)).mono ?_; rintro _ _ ⟨rfl, rfl⟩
    exact ⟨rfl, Ext.refl _⟩
  refine RW_d _ rfl (fun v => by dsimp only [List.set]; try rfl) (fun u hu hF => ?_) (fun v420 => ?_)
  · have h48_ : v416 = (Fl r347) := hF.1
    have h51_ : v419 = (Fl r7) := hF.2.1
    clear hF
    refine doesG_un rfl ?_
    obtain rfl := h48_
    obtain rfl := h51_
    refine (does_float (.inr (.inl rfl)) (ev rfl) (ev rfl)).mono ?_; rintro _ _ ⟨r, rfl, hr, hx⟩
    exact ⟨⟨r, rfl, (by simp only [hr])⟩, hx⟩
  refine RW_d _ rfl (fun v => by dsimp only [List.set]; try rfl) (fun u hu hF => ?_) (fun v421 => ?_)
  · have h46_ : v414 = (Iv 1) := hF.1
    clear hF
    refine doesG_un rfl ?_
    obtain rfl := h46_
    refine (does_indexAt_run (r := (Pt b363 1)) (ev rfl) (ev rfl) (fun w => ia54_1 _ _ w)).mono ?_; rintro _ _ ⟨rfl, rfl⟩
    exact ⟨rfl, Ext.refl _⟩
  refine RW_fin ?_; intro w422 E423 hP424
  obtain ⟨⟨⟨⟨⟨⟨⟨⟨-, -⟩, -⟩, -⟩, -⟩, -⟩, -⟩, q425⟩, q426⟩ := hP424
  have X427 := Ext.gr X413 E423
  have q425 : ∃ r_1 : Nat, v420 = (Fl r_1) ∧ cf .f32 r_1 = fop .sub .f32 (cf .f32 r347) (cf .f32 r7) := q425
  obtain ⟨r428, rfl, h429⟩ := q425
  have q426 : v421 = (Pt b363 1) := q426
  obtain rfl := q426
  show wpList _ _ _ _ (fr [_, _, _, _, _, _, _, _, _, _, _, _, _, _, _, _, _, _, _, _, _, _, _, _, _, _, _, _, _, _, _, _, _, _, _, _, _, _, _, _, _, _, _, _, _, _, _, _, _, _, _, _, _, _, _, _, _, _, _, _, _, _, _, _, _, _, _, _, _, _, _, _, _, _, _, _, _, _, _, _, _, _, _, _, _, _, _, _, _, _]) _
  refine seqn rfl rfl (does_store (n := 1) (cs := [(Fl r345), (Fl r347), (Fl r349)]) (u := (Fl r428)) (ev rfl) (ev rfl) Try.sizeOf22 rfl (((((hB381.ext E386).ext E398).wr W405 n375).ext E411).ext E423) (Nat.le_of_ble_eq_true rfl) rfl) ?_; rintro _ w432 ⟨rfl, W430, hB431⟩
  change Blk _ _ [(Fl r345), (Fl r428), (Fl r349)] at hB431
  have X433 := Below.wr X427 W430 g374
  refine wpList_nil (hK409 _ _ ?_)
  refine wp_seq_k fun K434 hK434 => ?_
  obtain ⟨β4, hβ4⟩ : ∃ b : Bool, b = (vbtOk A_g (V3.mk (cf .f32 r339) (cf .f32 r403) (cf .f32 r343))) := ⟨_, rfl⟩
  refine region_draw (
    [Fact.pure [] (fun v => v = (.agg #[(Fl r1), (Fl r3), (Fl r5), (Fl r7), (Iv A_g.x), (Iv A_g.y), (Iv A_g.z), (.slice p17 A_g.vals.length q18)])),
    Fact.pure [] (fun v => v = (.agg #[(Fl r339), (Fl r403), (Fl r343)])),
    Fact.pure [56] (fun v => ∃ cs_1 : List Value, v = (.agg cs_1.toArray) ∧ RV3 w (V3.mk (cf .f32 r339) (cf .f32 r403) (cf .f32 r343)) cs_1),
    Fact.pure [55, 57] (fun v => ∃ r_1 : Nat, v = (.tuple #[(Fl r_1), (Bo (vbtOk A_g (V3.mk (cf .f32 r339) (cf .f32 r403) (cf .f32 r343))))]) ∧ cf .f32 r_1 = vbtG A_g (V3.mk (cf .f32 r339) (cf .f32 r403) (cf .f32 r343))),
    Fact.pure [58] (fun v => ∃ r_1 : Nat, v = (.tuple #[(Fl r_1), (Bo (vbtOk A_g (V3.mk (cf .f32 r339) (cf .f32 r403) (cf .f32 r343))))]) ∧ cf .f32 r_1 = vbtG A_g (V3.mk (cf .f32 r339) (cf .f32 r403) (cf .f32 r343))),
    Fact.pure [54] (fun v => ∃ r_1 : Nat, v = (Fl r_1) ∧ cf .f32 r_1 = vbtG A_g (V3.mk (cf .f32 r339) (cf .f32 r403) (cf .f32 r343))),
    Fact.flt [54] (fun v => v = (Bo β4))]) mixed (by kernel_rfl) (by intro _ _ d _ _ h; cases d <;> exact h) ?_
  obtain ⟨w435, hw437⟩ : ∃ w', w' = World.drew w432 := ⟨_, rfl⟩; rw [← hw437]; have E436 : Ext w432 w435 := by rw [hw437]; exact Ext.draw _
  clear hw437
  have X438 := Ext.gr X433 E436
  refine RW_d _ rfl (fun v => by dsimp only [List.set]; try rfl) (fun u hu hF => ?_) (fun v439 => ?_)
  · clear hF
    refine doesG_un rfl ?_
    refine (does_loadAgg (cs := [(Fl r1), (Fl r3), (Fl r5), (Fl r7), (Iv A_g.x), (Iv A_g.y), (Iv A_g.z), (.slice p17 A_g.vals.length q18)]) (ev rfl) Try.isAgg33 Try.sizeOf33 (Blk.cells ((((((((((((((((((((((((((((((((((((((((((hB23.ext E31).ext E39).ext E56).ext E74).wr W81 (Nat.ne_of_lt n76)).ext E95).wr W103 (Nat.ne_of_lt n97)).wr W108 (Nat.ne_of_lt n97)).ext E114).kl E124 nin0).wr W162 (Nat.ne_of_lt n146)).wr W166 (Nat.ne_of_lt n155)).ext E172).ext E184).wr W191 (Nat.ne_of_lt n146)).ext E197).ext E209).wr W216 (Nat.ne_of_lt n155)).ext E222).ext E233).ext E242).ext E253).ext E269).ext E275).ext E280).ext E285).wr W288 (Nat.ne_of_lt n76)).ext E300).wr W311 (Nat.ne_of_lt n302)).wr W316 (Nat.ne_of_lt n302)).ext E322).kl E332 nin0).wr W376 (Nat.ne_of_lt n354)).wr W380 (Nat.ne_of_lt n366)).ext E386).ext E398).wr W405 (Nat.ne_of_lt n354)).ext E411).ext E423).wr W430 (Nat.ne_of_lt n366)).ext E436).ext hu)) rfl).mono ?_; rintro _ _ ⟨rfl, rfl⟩
    exact ⟨rfl, Ext.refl _⟩
  refine RW_d _ rfl (fun v => by dsimp only [List.set]; try rfl) (fun u hu hF => ?_) (fun v440 => ?_)
  · clear hF
    refine doesG_un rfl ?_
    refine (does_loadAgg (cs := [(Fl r339), (Fl r403), (Fl r343)]) (ev rfl) Try.isAgg54 Try.sizeOf54 (Blk.cells (((((hB406.ext E411).ext E423).wr W430 (Ne.symm n375)).ext E436).ext hu)) rfl).mono ?_; rintro _ _ ⟨rfl, rfl⟩
    exact ⟨rfl, Ext.refl _⟩
  refine RW_d _ rfl (fun v => by dsimp only [List.set]; try rfl) (fun u hu hF => ?_) (fun v441 => ?_)
  · have h56_ : v440 = (.agg #[(Fl r339), (Fl r403), (Fl r343)]) := hF.1
    clear hF
    refine doesG_un rfl ?_
    obtain rfl := h56_
    refine (does_call (args := #[(.agg #[(Fl r339), (Fl r403), (Fl r343)])]) cal27 (evs rfl) (c_impl_vectorOf r339 r403 r343 _)).mono ?_; rintro v u' ⟨hx, ⟨csn1, hv, k0⟩⟩
    exact ⟨⟨csn1, hv, k0⟩, hx⟩
  refine RW_d _ rfl (fun v => by dsimp only [List.set]; try rfl) (fun u hu hF => ?_) (fun v442 => ?_)
  · have h55_ : v439 = (.agg #[(Fl r1), (Fl r3), (Fl r5), (Fl r7), (Iv A_g.x), (Iv A_g.y), (Iv A_g.z), (.slice p17 A_g.vals.length q18)]) := hF.1
    have h57_ : ∃ cs_1 : List Value, v441 = (.agg cs_1.toArray) ∧ RV3 w (V3.mk (cf .f32 r339) (cf .f32 r403) (cf .f32 r343)) cs_1 := hF.2.1
    clear hF
    refine doesG_un rfl ?_
    obtain rfl := h55_
    obtain ⟨_, rfl, ⟨r57_1, r57_3, r57_5, rfl, h57_2, h57_4, h57_6⟩⟩ := h57_
    refine (does_call (args := #[(.agg #[(Fl r1), (Fl r3), (Fl r5), (Fl r7), (Iv A_g.x), (Iv A_g.y), (Iv A_g.z), (.slice p17 A_g.vals.length q18)]), (.agg #[(Fl r57_1), (Fl r57_3), (Fl r57_5)])]) cal9 (evs rfl) (c_impl_ValueBetween [(Fl r1), (Fl r3), (Fl r5), (Fl r7), (Iv A_g.x), (Iv A_g.y), (Iv A_g.z), (.slice p17 A_g.vals.length q18)] A_g [(Fl r57_1), (Fl r57_3), (Fl r57_5)] (V3.mk (cf .f32 r339) (cf .f32 r403) (cf .f32 r343)) _ ⟨r1, r3, r5, r7, (.slice p17 A_g.vals.length q18), rfl, h2, h4, h6, h8, (Sl.ext (Sl.ext hs19 RF.mono (Ext.gr X433 E436)) RF.mono hu)⟩ ⟨r57_1, r57_3, r57_5, rfl, (by assumption), (by assumption), (by assumption)⟩)).mono ?_; rintro v u' ⟨hx, ⟨rn1, hv, k0⟩⟩
    exact ⟨⟨rn1, hv.trans (by simp only [h57_2, h57_4, h57_6]), (by simp only [k0, h57_2, h57_4, h57_6])⟩, hx⟩
  refine RW_d _ rfl (fun v => by dsimp only [List.set]; try rfl) (fun u hu hF => ?_) (fun v443 => ?_)
  · have h58_ : ∃ r_1 : Nat, v442 = (.tuple #[(Fl r_1), (Bo (vbtOk A_g (V3.mk (cf .f32 r339) (cf .f32 r403) (cf .f32 r343))))]) ∧ cf .f32 r_1 = vbtG A_g (V3.mk (cf .f32 r339) (cf .f32 r403) (cf .f32 r343)) := hF.1
    clear hF
    refine doesG_un rfl ?_
    obtain ⟨r58_1, rfl, h58_2⟩ := h58_
    refine (does_move (u := (.tuple #[(Fl r58_1), (Bo (vbtOk A_g (V3.mk (cf .f32 r339) (cf .f32 r403) (cf .f32 r343))))])) (ev rfl)).mono ?_; rintro _ _ ⟨rfl, rfl⟩
    exact ⟨⟨r58_1, rfl, (by simp only [h58_2])⟩, Ext.refl _⟩
  refine RW_d _ rfl (fun v => by dsimp only [List.set]; try rfl) (fun u hu hF => ?_) (fun v444 => ?_)
  · have h54_ : ∃ r_1 : Nat, v443 = (.tuple #[(Fl r_1), (Bo (vbtOk A_g (V3.mk (cf .f32 r339) (cf .f32 r403) (cf .f32 r343))))]) ∧ cf .f32 r_1 = vbtG A_g (V3.mk (cf .f32 r339) (cf .f32 r403) (cf .f32 r343)) := hF.1
    clear hF
    refine doesG_un rfl ?_
    obtain ⟨r54_1, rfl, h54_2⟩ := h54_
    refine (does_extract (vs := #[(Fl r54_1), (Bo (vbtOk A_g (V3.mk (cf .f32 r339) (cf .f32 r403) (cf .f32 r343))))]) (u := (Fl r54_1)) (ev rfl) rfl).mono ?_; rintro _ _ ⟨rfl, rfl⟩
    exact ⟨⟨r54_1, rfl, (by simp only [h54_2])⟩, Ext.refl _⟩
  refine RW_d _ rfl (fun v => by dsimp only [List.set]; try rfl) (fun u hu hF => ?_) (fun v445 => ?_)
  · have h54_ : ∃ r_1 : Nat, v443 = (.tuple #[(Fl r_1), (Bo (vbtOk A_g (V3.mk (cf .f32 r339) (cf .f32 r403) (cf .f32 r343))))]) ∧ cf .f32 r_1 = vbtG A_g (V3.mk (cf .f32 r339) (cf .f32 r403) (cf .f32 r343)) := hF.1
    clear hF
    obtain ⟨r54_1, rfl, h54_2⟩ := h54_
    exact ⟨_, yields_is rfl (run_extract (ev rfl) rfl), (by first | rfl | (show _ = _; simp only [hβ4, h54_2]; done) | (show _ = _; simp only [hβ4, h54_2]; rfl))⟩
  refine RW_fin ?_; intro w446 E447 hP448
  obtain ⟨⟨⟨⟨⟨⟨⟨-, -⟩, -⟩, -⟩, -⟩, -⟩, q449⟩, q450⟩ := hP448
  have X451 := Ext.gr X438 E447
  have q449 : ∃ r_1 : Nat, v444 = (Fl r_1) ∧ cf .f32 r_1 = vbtG A_g (V3.mk (cf .f32 r339) (cf .f32 r403) (cf .f32 r343)) := q449
  obtain ⟨r452, rfl, h453⟩ := q449
  have q450 : v445 = (Bo β4) := q450
  obtain rfl := q450
  show wpList _ _ _ _ (fr [_, _, _, _, _, _, _, _, _, _, _, _, _, _, _, _, _, _, _, _, _, _, _, _, _, _, _, _, _, _, _, _, _, _, _, _, _, _, _, _, _, _, _, _, _, _, _, _, _, _, _, _, _, _, _, _, _, _, _, _, _, _, _, _, _, _, _, _, _, _, _, _, _, _, _, _, _, _, _, _, _, _, _, _, _, _, _, _, _, _]) _
  refine q_is rfl rfl (does_assign (u := (Fl r452)) (ev rfl)) (by dsimp only [List.set]; try rfl) ?_
  refine q_is rfl rfl (does_assign (u := (Bo β4)) (ev rfl)) (by dsimp only [List.set]; try rfl) ?_
  refine wpList_nil (hK434 _ _ ?_)
  refine wp_seq_k fun K454 hK454 => ?_
  obtain ⟨β5, hβ5⟩ : ∃ b : Bool, b = (vbtOk A_g (V3.mk (cf .f32 r345) (cf .f32 r428) (cf .f32 r349))) := ⟨_, rfl⟩
  refine region_draw (
    [Fact.pure [] (fun v => v = (.agg #[(Fl r1), (Fl r3), (Fl r5), (Fl r7), (Iv A_g.x), (Iv A_g.y), (Iv A_g.z), (.slice p17 A_g.vals.length q18)])),
    Fact.pure [] (fun v => v = (.agg #[(Fl r345), (Fl r428), (Fl r349)])),
    Fact.pure [63] (fun v => ∃ cs_1 : List Value, v = (.agg cs_1.toArray) ∧ RV3 w (V3.mk (cf .f32 r345) (cf .f32 r428) (cf .f32 r349)) cs_1),
    Fact.pure [62, 64] (fun v => ∃ r_1 : Nat, v = (.tuple #[(Fl r_1), (Bo (vbtOk A_g (V3.mk (cf .f32 r345) (cf .f32 r428) (cf .f32 r349))))]) ∧ cf .f32 r_1 = vbtG A_g (V3.mk (cf .f32 r345) (cf .f32 r428) (cf .f32 r349))),
    Fact.pure [65] (fun v => ∃ r_1 : Nat, v = (.tuple #[(Fl r_1), (Bo (vbtOk A_g (V3.mk (cf .f32 r345) (cf .f32 r428) (cf .f32 r349))))]) ∧ cf .f32 r_1 = vbtG A_g (V3.mk (cf .f32 r345) (cf .f32 r428) (cf .f32 r349))),
    Fact.pure [61] (fun v => ∃ r_1 : Nat, v = (Fl r_1) ∧ cf .f32 r_1 = vbtG A_g (V3.mk (cf .f32 r345) (cf .f32 r428) (cf .f32 r349))),
    Fact.flt [61] (fun v => v = (Bo β5))]) mixed (by kernel_rfl) (by intro _ _ d _ _ h; cases d <;> exact h) ?_
  obtain ⟨w455, hw457⟩ : ∃ w', w' = World.drew w446 := ⟨_, rfl⟩; rw [← hw457]; have E456 : Ext w446 w455 := by rw [hw457]; exact Ext.draw _
  clear hw457
  have X458 := Ext.gr X451 E456
  refine RW_d _ rfl (fun v => by dsimp only [List.set]; try rfl) (fun u hu hF => ?_) (fun v459 => ?_)
  · clear hF
    refine doesG_un rfl ?_
    refine (does_loadAgg (cs := [(Fl r1), (Fl r3), (Fl r5), (Fl r7), (Iv A_g.x), (Iv A_g.y), (Iv A_g.z), (.slice p17 A_g.vals.length q18)]) (ev rfl) Try.isAgg33 Try.sizeOf33 (Blk.cells ((((((((((((((((((((((((((((((((((((((((((((hB23.ext E31).ext E39).ext E56).ext E74).wr W81 (Nat.ne_of_lt n76)).ext E95).wr W103 (Nat.ne_of_lt n97)).wr W108 (Nat.ne_of_lt n97)).ext E114).kl E124 nin0).wr W162 (Nat.ne_of_lt n146)).wr W166 (Nat.ne_of_lt n155)).ext E172).ext E184).wr W191 (Nat.ne_of_lt n146)).ext E197).ext E209).wr W216 (Nat.ne_of_lt n155)).ext E222).ext E233).ext E242).ext E253).ext E269).ext E275).ext E280).ext E285).wr W288 (Nat.ne_of_lt n76)).ext E300).wr W311 (Nat.ne_of_lt n302)).wr W316 (Nat.ne_of_lt n302)).ext E322).kl E332 nin0).wr W376 (Nat.ne_of_lt n354)).wr W380 (Nat.ne_of_lt n366)).ext E386).ext E398).wr W405 (Nat.ne_of_lt n354)).ext E411).ext E423).wr W430 (Nat.ne_of_lt n366)).ext E436).ext E447).ext E456).ext hu)) rfl).mono ?_; rintro _ _ ⟨rfl, rfl⟩
    exact ⟨rfl, Ext.refl _⟩
  refine RW_d _ rfl (fun v => by dsimp only [List.set]; try rfl) (fun u hu hF => ?_) (fun v460 => ?_)
  · clear hF
    refine doesG_un rfl ?_
    refine (does_loadAgg (cs := [(Fl r345), (Fl r428), (Fl r349)]) (ev rfl) Try.isAgg54 Try.sizeOf54 (Blk.cells ((((hB431.ext E436).ext E447).ext E456).ext hu)) rfl).mono ?_; rintro _ _ ⟨rfl, rfl⟩
    exact ⟨rfl, Ext.refl _⟩
  refine RW_d _ rfl (fun v => by dsimp only [List.set]; try rfl) (fun u hu hF => ?_) (fun v461 => ?_)
  · have h63_ : v460 = (.agg #[(Fl r345), (Fl r428), (Fl r349)]) := hF.1
    clear hF
    refine doesG_un rfl ?_
    obtain rfl := h63_
    refine (does_call (args := #[(.agg #[(Fl r345), (Fl r428), (Fl r349)])]) cal27 (evs rfl) (c_impl_vectorOf r345 r428 r349 _)).mono ?_; rintro v u' ⟨hx, ⟨csn1, hv, k0⟩⟩
    exact ⟨⟨csn1, hv, k0⟩, hx⟩
  refine RW_d _ rfl (fun v => by dsimp only [List.set]; try rfl) (fun u hu hF => ?_) (fun v462 => ?_)
  · have h62_ : v459 = (.agg #[(Fl r1), (Fl r3), (Fl r5), (Fl r7), (Iv A_g.x), (Iv A_g.y), (Iv A_g.z), (.slice p17 A_g.vals.length q18)]) := hF.1
    have h64_ : ∃ cs_1 : List Value, v461 = (.agg cs_1.toArray) ∧ RV3 w (V3.mk (cf .f32 r345) (cf .f32 r428) (cf .f32 r349)) cs_1 := hF.2.1
    clear hF
    refine doesG_un rfl ?_
    obtain rfl := h62_
    obtain ⟨_, rfl, ⟨r64_1, r64_3, r64_5, rfl, h64_2, h64_4, h64_6⟩⟩ := h64_
    refine (does_call (args := #[(.agg #[(Fl r1), (Fl r3), (Fl r5), (Fl r7), (Iv A_g.x), (Iv A_g.y), (Iv A_g.z), (.slice p17 A_g.vals.length q18)]), (.agg #[(Fl r64_1), (Fl r64_3), (Fl r64_5)])]) cal9 (evs rfl) (c_impl_ValueBetween [(Fl r1), (Fl r3), (Fl r5), (Fl r7), (Iv A_g.x), (Iv A_g.y), (Iv A_g.z), (.slice p17 A_g.vals.length q18)] A_g [(Fl r64_1), (Fl r64_3), (Fl r64_5)] (V3.mk (cf .f32 r345) (cf .f32 r428) (cf .f32 r349)) _ ⟨r1, r3, r5, r7, (.slice p17 A_g.vals.length q18), rfl, h2, h4, h6, h8, (Sl.ext (Sl.ext hs19 RF.mono (Ext.gr X451 E456)) RF.mono hu)⟩ ⟨r64_1, r64_3, r64_5, rfl, (by assumption), (by assumption), (by assumption)⟩)).mono ?_; rintro v u' ⟨hx, ⟨rn1, hv, k0⟩⟩
    exact ⟨⟨rn1, hv.trans (by simp only [h64_2, h64_4, h64_6]), (by simp only [k0, h64_2, h64_4, h64_6])⟩, hx⟩
  refine RW_d _ rfl (fun v => by dsimp only [List.set]; try rfl) (fun u hu hF => ?_) (fun v463 => ?_)
  · have h65_ : ∃ r_1 : Nat, v462 = (.tuple #[(Fl r_1), (Bo (vbtOk A_g (V3.mk (cf .f32 r345) (cf .f32 r428) (cf .f32 r349))))]) ∧ cf .f32 r_1 = vbtG A_g (V3.mk (cf .f32 r345) (cf .f32 r428) (cf .f32 r349)) := hF.1
    clear hF
    refine doesG_un rfl ?_
    obtain ⟨r65_1, rfl, h65_2⟩ := h65_
    refine (does_move (u := (.tuple #[(Fl r65_1), (Bo (vbtOk A_g (V3.mk (cf .f32 r345) (cf .f32 r428) (cf .f32 r349))))])) (ev rfl)).mono ?_; rintro _ _ ⟨rfl, rfl⟩
    exact ⟨⟨r65_1, rfl, (by simp only [h65_2])⟩, Ext.refl _⟩
  refine RW_d _ rfl (fun v => by dsimp only [List.set]; try rfl) (fun u hu hF => ?_) (fun v464 => ?_)
  · have h61_ : ∃ r_1 : Nat, v463 = (.tuple #[(Fl r_1), (Bo (vbtOk A_g (V3.mk (cf .f32 r345) (cf .f32 r428) (cf .f32 r349))))]) ∧ cf .f32 r_1 = vbtG A_g (V3.mk (cf .f32 r345) (cf .f32 r428) (cf .f32 r349)) := hF.1
    clear hF
    refine doesG_un rfl ?_
    obtain ⟨r61_1, rfl, h61_2⟩ := h61_
    refine (does_extract (vs := #[(Fl r61_1), (Bo (vbtOk A_g (V3.mk (cf .f32 r345) (cf .f32 r428) (cf .f32 r349))))]) (u := (Fl r61_1)) (ev rfl) rfl).mono ?_; rintro _ _ ⟨rfl, rfl⟩
    exact ⟨⟨r61_1, rfl, (by simp only [h61_2])⟩, Ext.refl _⟩
  refine RW_d _ rfl (fun v => by dsimp only [List.set]; try rfl) (fun u hu hF => ?_) (fun v465 => ?_)
  · have h61_ : ∃ r_1 : Nat, v463 = (.tuple #[(Fl r_1), (Bo (vbtOk A_g (V3.mk (cf .f32 r345) (cf .f32 r428) (cf .f32 r349))))]) ∧ cf .f32 r_1 = vbtG A_g (V3.mk (cf .f32 r345) (cf .f32 r428) (cf .f32 r349)) := hF.1
    clear hF
    obtain ⟨r61_1, rfl, h61_2⟩ := h61_
    exact ⟨_, yields_is rfl (run_extract (ev rfl) rfl), (by first | rfl | (show _ = _; simp only [hβ5, h61_2]; done) | (show _ = _; simp only [hβ5, h61_2]; rfl))⟩
  refine RW_fin ?_; intro w466 E467 hP468
  obtain ⟨⟨⟨⟨⟨⟨⟨-, -⟩, -⟩, -⟩, -⟩, -⟩, q469⟩, q470⟩ := hP468
  have X471 := Ext.gr X458 E467
  have q469 : ∃ r_1 : Nat, v464 = (Fl r_1) ∧ cf .f32 r_1 = vbtG A_g (V3.mk (cf .f32 r345) (cf .f32 r428) (cf .f32 r349)) := q469
  obtain ⟨r472, rfl, h473⟩ := q469
  have q470 : v465 = (Bo β5) := q470
  obtain rfl := q470
  show wpList _ _ _ _ (fr [_, _, _, _, _, _, _, _, _, _, _, _, _, _, _, _, _, _, _, _, _, _, _, _, _, _, _, _, _, _, _, _, _, _, _, _, _, _, _, _, _, _, _, _, _, _, _, _, _, _, _, _, _, _, _, _, _, _, _, _, _, _, _, _, _, _, _, _, _, _, _, _, _, _, _, _, _, _, _, _, _, _, _, _, _, _, _, _, _, _]) _
  refine q_is rfl rfl (does_assign (u := (Fl r472)) (ev rfl)) (by dsimp only [List.set]; try rfl) ?_
  refine q_is rfl rfl (does_assign (u := (Bo β5)) (ev rfl)) (by dsimp only [List.set]; try rfl) ?_
  refine wpList_nil (hK454 _ _ ?_)
  refine wp_seq_k fun K474 hK474 => ?_
  obtain ⟨β6, hβ6⟩ : ∃ b : Bool, b = (((true && β2) && β3) && β4) := ⟨_, rfl⟩
  refine region_text (
    [Fact.pure [] (fun v => v = (Bo ((true && β2) && β3))),
    Fact.pure [68] (fun v => v = (Bo ((true && β2) && β3))),
    Fact.pure [69] (fun v => ((true && β2) && β3) = true → v = (Bo β4)),
    Fact.pure [69, 70] (fun v => v = (Bo β6)),
    Fact.pure [71] (fun v => v = (Bo β6)),
    Fact.pure [72] (fun v => β6 = true → v = (Bo β5)),
    Fact.pure [72, 73] (fun v => v = (Bo (β6 && β5)))]) (by simp [Fact.pure, Fact.mem]) ?_
  refine RW_d _ rfl (fun v => by dsimp only [List.set]; try rfl) (fun u hu hF => ?_) (fun v475 => ?_)
  · clear hF
    refine doesG_un rfl ?_
    refine (does_move (u := (Bo ((true && β2) && β3))) (ev rfl)).mono ?_; rintro _ _ ⟨rfl, rfl⟩
    exact ⟨rfl, Ext.refl _⟩
  refine RW_d _ rfl (fun v => by dsimp only [List.set]; try rfl) (fun u hu hF => ?_) (fun v476 => ?_)
  · have h68_ : v475 = (Bo ((true && β2) && β3)) := hF.1
    clear hF
    refine doesG_un rfl ?_
    obtain rfl := h68_
    refine (does_move (u := (Bo ((true && β2) && β3))) (ev rfl)).mono ?_; rintro _ _ ⟨rfl, rfl⟩
    exact ⟨rfl, Ext.refl _⟩
  refine RW_d _ rfl (fun v => by dsimp only [List.set]; try rfl) (fun u hu hF => ?_) (fun v477 => ?_)
  · have h69_ : v476 = (Bo ((true && β2) && β3)) := hF.1
    clear hF
    obtain rfl := h69_
    refine doesG_g (b := ((true && β2) && β3)) rfl (yld rfl rfl) (fun hg1 => ?_) (fun hc => ⟨fun hg1 => absurd hg1 hc, Ext.refl _⟩)
    refine (does_move (u := (Bo β4)) (ev rfl)).mono ?_; rintro _ _ ⟨rfl, rfl⟩
    exact ⟨fun _ => rfl, Ext.refl _⟩
  refine RW_d _ rfl (fun v => by dsimp only [List.set]; try rfl) (fun u hu hF => ?_) (fun v478 => ?_)
  · have h69_ : v476 = (Bo ((true && β2) && β3)) := hF.1
    have h70_ : ((true && β2) && β3) = true → v477 = (Bo β4) := hF.2.1
    clear hF
    refine doesG_un rfl ?_
    skip
    obtain rfl := h69_
    refine (does_pick (b := ((true && β2) && β3)) (ev rfl) (ev rfl) (ev rfl)).mono ?_; rintro _ _ ⟨rfl, rfl⟩; refine ⟨?_, Ext.refl _⟩; rw [hβ6]; skip
    cases hbb : ((true && β2) && β3)
    all_goals first | rfl | (have e_ := h70_ hbb; subst e_; rfl) | (simp [hbb] at h70_ ⊢; first | done | rfl | (subst h70_; rfl) | simp_all) | (simp [hbb] at h70_ ⊢; done)
  refine RW_d _ rfl (fun v => by dsimp only [List.set]; try rfl) (fun u hu hF => ?_) (fun v479 => ?_)
  · have h71_ : v478 = (Bo β6) := hF.1
    clear hF
    refine doesG_un rfl ?_
    obtain rfl := h71_
    refine (does_move (u := (Bo β6)) (ev rfl)).mono ?_; rintro _ _ ⟨rfl, rfl⟩
    exact ⟨rfl, Ext.refl _⟩
  refine RW_d _ rfl (fun v => by dsimp only [List.set]; try rfl) (fun u hu hF => ?_) (fun v480 => ?_)
  · have h72_ : v479 = (Bo β6) := hF.1
    clear hF
    obtain rfl := h72_
    refine doesG_g (b := β6) rfl (yld rfl rfl) (fun hg1 => ?_) (fun hc => ⟨fun hg1 => absurd hg1 hc, Ext.refl _⟩)
    refine (does_move (u := (Bo β5)) (ev rfl)).mono ?_; rintro _ _ ⟨rfl, rfl⟩
    exact ⟨fun _ => rfl, Ext.refl _⟩
  refine RW_d _ rfl (fun v => by dsimp only [List.set]; try rfl) (fun u hu hF => ?_) (fun v481 => ?_)
  · have h72_ : v479 = (Bo β6) := hF.1
    have h73_ : β6 = true → v480 = (Bo β5) := hF.2.1
    clear hF
    refine doesG_un rfl ?_
    skip
    obtain rfl := h72_
    refine (does_pick (b := β6) (ev rfl) (ev rfl) (ev rfl)).mono ?_; rintro _ _ ⟨rfl, rfl⟩; refine ⟨?_, Ext.refl _⟩; skip
    cases hbb : β6
    all_goals first | rfl | (have e_ := h73_ hbb; subst e_; rfl) | (simp [hbb] at h73_ ⊢; first | done | rfl | (subst h73_; rfl) | simp_all) | (simp [hbb] at h73_ ⊢; done)
  refine RW_fin ?_; intro w482 E483 hP484
  obtain ⟨⟨⟨⟨⟨⟨⟨-, -⟩, -⟩, -⟩, -⟩, -⟩, -⟩, q485⟩ := hP484
  have X486 := Ext.gr X471 E483
  have q485 : v481 = (Bo (β6 && β5)) := q485
  obtain rfl := q485
  show wpList _ _ _ _ (fr [_, _, _, _, _, _, _, _, _, _, _, _, _, _, _, _, _, _, _, _, _, _, _, _, _, _, _, _, _, _, _, _, _, _, _, _, _, _, _, _, _, _, _, _, _, _, _, _, _, _, _, _, _, _, _, _, _, _, _, _, _, _, _, _, _, _, _, _, _, _, _, _, _, _, _, _, _, _, _, _, _, _, _, _, _, _, _, _, _, _]) _
  refine q_is rfl rfl (does_assign (u := (Bo (β6 && β5))) (ev rfl)) (by dsimp only [List.set]; try rfl) ?_
  refine wpList_nil (hK474 _ _ ?_)
  refine wp_region_lit ?_
  refine q_is rfl rfl (does_move (u := (Iv 1)) (ev rfl)) (by dsimp only [List.set]; try rfl) ?_
  refine q_is rfl rfl (does_move (u := (Fl r452)) (ev rfl)) (by dsimp only [List.set]; try rfl) ?_
  refine q_is rfl rfl (does_move (u := (Fl r472)) (ev rfl)) (by dsimp only [List.set]; try rfl) ?_
  refine seqd rfl rfl (does_float (.inr (.inl rfl)) (ev rfl) (ev rfl)) ?_; rintro _ w490 ⟨r487, rfl, h488, E489⟩
  have X491 := Ext.gr X486 E489
  show wpList _ _ _ _ (fr [_, _, _, _, _, _, _, _, _, _, _, _, _, _, _, _, _, _, _, _, _, _, _, _, _, _, _, _, _, _, _, _, _, _, _, _, _, _, _, _, _, _, _, _, _, _, _, _, _, _, _, _, _, _, _, _, _, _, _, _, _, _, _, _, _, _, _, _, _, _, _, _, _, _, _, _, _, _, _, _, _, _, _, _, _, _, _, _, _, _]) _
  refine q_is rfl rfl (does_fieldAddr (ev rfl) fa33_1) (by dsimp only [List.set]; try rfl) ?_
  refine q_is rfl rfl (does_load (u := (Fl r7)) (ev rfl) Try.isAgg22 (Cells.at (Blk.cells ((((((((((((((((((((((((((((((((((((((((((((((hB23.ext E31).ext E39).ext E56).ext E74).wr W81 (Nat.ne_of_lt n76)).ext E95).wr W103 (Nat.ne_of_lt n97)).wr W108 (Nat.ne_of_lt n97)).ext E114).kl E124 nin0).wr W162 (Nat.ne_of_lt n146)).wr W166 (Nat.ne_of_lt n155)).ext E172).ext E184).wr W191 (Nat.ne_of_lt n146)).ext E197).ext E209).wr W216 (Nat.ne_of_lt n155)).ext E222).ext E233).ext E242).ext E253).ext E269).ext E275).ext E280).ext E285).wr W288 (Nat.ne_of_lt n76)).ext E300).wr W311 (Nat.ne_of_lt n302)).wr W316 (Nat.ne_of_lt n302)).ext E322).kl E332 nin0).wr W376 (Nat.ne_of_lt n354)).wr W380 (Nat.ne_of_lt n366)).ext E386).ext E398).wr W405 (Nat.ne_of_lt n354)).ext E411).ext E423).wr W430 (Nat.ne_of_lt n366)).ext E436).ext E447).ext E456).ext E467).ext E483).ext E489)) 3 rfl)) (by dsimp only [List.set]; try rfl) ?_
  refine seqd rfl rfl (does_float (.inr (.inr (.inl rfl))) (ev rfl) (ev rfl)) ?_; rintro _ w495 ⟨r492, rfl, h493, E494⟩
  have X496 := Ext.gr X491 E494
  show wpList _ _ _ _ (fr [_, _, _, _, _, _, _, _, _, _, _, _, _, _, _, _, _, _, _, _, _, _, _, _, _, _, _, _, _, _, _, _, _, _, _, _, _, _, _, _, _, _, _, _, _, _, _, _, _, _, _, _, _, _, _, _, _, _, _, _, _, _, _, _, _, _, _, _, _, _, _, _, _, _, _, _, _, _, _, _, _, _, _, _, _, _, _, _, _, _]) _
  refine seqd rfl rfl (does_float (.inr (.inr (.inr rfl))) (ev rfl) (ev rfl)) ?_; rintro _ w500 ⟨r497, rfl, h498, E499⟩
  have X501 := Ext.gr X496 E499
  show wpList _ _ _ _ (fr [_, _, _, _, _, _, _, _, _, _, _, _, _, _, _, _, _, _, _, _, _, _, _, _, _, _, _, _, _, _, _, _, _, _, _, _, _, _, _, _, _, _, _, _, _, _, _, _, _, _, _, _, _, _, _, _, _, _, _, _, _, _, _, _, _, _, _, _, _, _, _, _, _, _, _, _, _, _, _, _, _, _, _, _, _, _, _, _, _, _]) _
  refine q_is rfl rfl (does_indexAt_run (r := (Pt b71 1)) (ev rfl) (ev rfl) (fun w => ia54_1 _ _ w)) (by dsimp only [List.set]; try rfl) ?_
  refine seqn rfl rfl (does_store (n := 1) (cs := [(Fl r283), (Fl 0), (Fl 0)]) (u := (Fl r497)) (ev rfl) (ev rfl) Try.sizeOf22 rfl (((((((((((((((((((((hB289.ext E300).wr W311 (Nat.ne_of_lt n308)).wr W316 (Nat.ne_of_lt n308)).ext E322).kl E332 nin0).wr W376 (Nat.ne_of_lt n360)).wr W380 (Nat.ne_of_lt n372)).ext E386).ext E398).wr W405 (Nat.ne_of_lt n360)).ext E411).ext E423).wr W430 (Nat.ne_of_lt n372)).ext E436).ext E447).ext E456).ext E467).ext E483).ext E489).ext E494).ext E499) (Nat.le_of_ble_eq_true rfl) rfl) ?_; rintro _ w504 ⟨rfl, W502, hB503⟩
  change Blk _ _ [(Fl r283), (Fl r497), (Fl 0)] at hB503
  have X505 := Below.wr X501 W502 g79
  refine wpList_nil (hK294 _ _ ?_)
  refine wp_region_lit ?_
  refine q_is rfl rfl (does_iarith (p := 1) (q := 1) (r := (2)) (ev rfl) (ev rfl) (.inl ⟨rfl, rfl⟩)) (by dsimp only [List.set]; try rfl) ?_
  refine q_is rfl rfl (does_move (u := (Iv 2)) (ev rfl)) (by dsimp only [List.set]; try rfl) ?_
  refine wpList_nil ?_
  refine un_step ?_
  refine wp_seq_k fun K506 hK506 => ?_
  refine wp_region_lit ?_
  refine q_is rfl rfl (does_icmp (p := 2) (q := 3) (.inr (.inr (.inl rfl))) (ev rfl) (ev rfl)) (by dsimp only [List.set]; try rfl) ?_
  refine wpList_nil (hK506 _ _ ?_)
  refine wp_seq_k fun K507 hK507 => ?_
  refine wp_cond_true (ev rfl) ?_
  refine wp_skip (hK507 _ _ ?_)
  refine wp_seq_k fun K508 hK508 => ?_
  refine wp_block ?_
  refine wp_seq_k fun K509 hK509 => ?_
  refine wp_region_lit ?_
  refine q_is rfl rfl (does_move (u := (Iv 2)) (ev rfl)) (by dsimp only [List.set]; try rfl) ?_
  refine q_is rfl rfl (does_assign (u := (Iv 2)) (ev rfl)) (by dsimp only [List.set]; try rfl) ?_
  refine wpList_nil (hK509 _ _ ?_)
  refine wp_seq_k fun K510 hK510 => ?_
  refine wp_region_lit ?_
  refine q_is rfl rfl (does_build (parts' := []) (cells := #[(Fl 0), (Fl 0), (Fl 0)]) (evp rfl) (by kernel_rfl)) (by dsimp only [List.set]; try rfl) ?_
  refine seqd rfl rfl (does_alloc z54) ?_; rintro _ w515 ⟨b511, rfl, hb512, hB513, E514⟩
  have n516 : b21 < b511 := Nat.lt_of_lt_of_le (Blk.lt (((((((((((((((((((((((((((((((((((((((((((((((((hB23.ext E31).ext E39).ext E56).ext E74).wr W81 (Nat.ne_of_lt n76)).ext E95).wr W103 (Nat.ne_of_lt n97)).wr W108 (Nat.ne_of_lt n97)).ext E114).kl E124 nin0).wr W162 (Nat.ne_of_lt n146)).wr W166 (Nat.ne_of_lt n155)).ext E172).ext E184).wr W191 (Nat.ne_of_lt n146)).ext E197).ext E209).wr W216 (Nat.ne_of_lt n155)).ext E222).ext E233).ext E242).ext E253).ext E269).ext E275).ext E280).ext E285).wr W288 (Nat.ne_of_lt n76)).ext E300).wr W311 (Nat.ne_of_lt n302)).wr W316 (Nat.ne_of_lt n302)).ext E322).kl E332 nin0).wr W376 (Nat.ne_of_lt n354)).wr W380 (Nat.ne_of_lt n366)).ext E386).ext E398).wr W405 (Nat.ne_of_lt n354)).ext E411).ext E423).wr W430 (Nat.ne_of_lt n366)).ext E436).ext E447).ext E456).ext E467).ext E483).ext E489).ext E494).ext E499).wr W502 (Nat.ne_of_lt n76))) hb512
  have n517 : b28 < b511 := Nat.lt_of_lt_of_le (Blk.lt ((((((((((((((((((((((((((((((((((((((((((((((((hB30.ext E39).ext E56).ext E74).wr W81 (Nat.ne_of_lt n77)).ext E95).wr W103 (Nat.ne_of_lt n98)).wr W108 (Nat.ne_of_lt n98)).ext E114).kl E124 nin0).wr W162 (Nat.ne_of_lt n147)).wr W166 (Nat.ne_of_lt n156)).ext E172).ext E184).wr W191 (Nat.ne_of_lt n147)).ext E197).ext E209).wr W216 (Nat.ne_of_lt n156)).ext E222).ext E233).ext E242).ext E253).ext E269).ext E275).ext E280).ext E285).wr W288 (Nat.ne_of_lt n77)).ext E300).wr W311 (Nat.ne_of_lt n303)).wr W316 (Nat.ne_of_lt n303)).ext E322).kl E332 nin0).wr W376 (Nat.ne_of_lt n355)).wr W380 (Nat.ne_of_lt n367)).ext E386).ext E398).wr W405 (Nat.ne_of_lt n355)).ext E411).ext E423).wr W430 (Nat.ne_of_lt n367)).ext E436).ext E447).ext E456).ext E467).ext E483).ext E489).ext E494).ext E499).wr W502 (Nat.ne_of_lt n77))) hb512
  have n518 : b36 < b511 := Nat.lt_of_lt_of_le (Blk.lt (((((((((((((((((((((((((((((((((((((((((((((((hB38.ext E56).ext E74).wr W81 (Nat.ne_of_lt n78)).ext E95).wr W103 (Nat.ne_of_lt n99)).wr W108 (Nat.ne_of_lt n99)).ext E114).kl E124 nin0).wr W162 (Nat.ne_of_lt n148)).wr W166 (Nat.ne_of_lt n157)).ext E172).ext E184).wr W191 (Nat.ne_of_lt n148)).ext E197).ext E209).wr W216 (Nat.ne_of_lt n157)).ext E222).ext E233).ext E242).ext E253).ext E269).ext E275).ext E280).ext E285).wr W288 (Nat.ne_of_lt n78)).ext E300).wr W311 (Nat.ne_of_lt n304)).wr W316 (Nat.ne_of_lt n304)).ext E322).kl E332 nin0).wr W376 (Nat.ne_of_lt n356)).wr W380 (Nat.ne_of_lt n368)).ext E386).ext E398).wr W405 (Nat.ne_of_lt n356)).ext E411).ext E423).wr W430 (Nat.ne_of_lt n368)).ext E436).ext E447).ext E456).ext E467).ext E483).ext E489).ext E494).ext E499).wr W502 (Nat.ne_of_lt n78))) hb512
  have n519 : b92 < b511 := Nat.lt_of_lt_of_le (Blk.lt (((((((((((((((((((((((((((((((((((((((((hB109.ext E114).kl E124 nin0).wr W162 (Nat.ne_of_lt n150)).wr W166 (Nat.ne_of_lt n159)).ext E172).ext E184).wr W191 (Nat.ne_of_lt n150)).ext E197).ext E209).wr W216 (Nat.ne_of_lt n159)).ext E222).ext E233).ext E242).ext E253).ext E269).ext E275).ext E280).ext E285).wr W288 (Nat.ne_of_gt n100)).ext E300).wr W311 (Nat.ne_of_lt n305)).wr W316 (Nat.ne_of_lt n305)).ext E322).kl E332 nin0).wr W376 (Nat.ne_of_lt n357)).wr W380 (Nat.ne_of_lt n369)).ext E386).ext E398).wr W405 (Nat.ne_of_lt n357)).ext E411).ext E423).wr W430 (Nat.ne_of_lt n369)).ext E436).ext E447).ext E456).ext E467).ext E483).ext E489).ext E494).ext E499).wr W502 (Nat.ne_of_gt n100))) hb512
  have n520 : b143 < b511 := Nat.lt_of_lt_of_le (Blk.lt ((((((((((((((((((((((((((((((((((hB192.ext E197).ext E209).wr W216 (Ne.symm n161)).ext E222).ext E233).ext E242).ext E253).ext E269).ext E275).ext E280).ext E285).wr W288 (Nat.ne_of_gt n149)).ext E300).wr W311 (Nat.ne_of_lt n306)).wr W316 (Nat.ne_of_lt n306)).ext E322).kl E332 nin0).wr W376 (Nat.ne_of_lt n358)).wr W380 (Nat.ne_of_lt n370)).ext E386).ext E398).wr W405 (Nat.ne_of_lt n358)).ext E411).ext E423).wr W430 (Nat.ne_of_lt n370)).ext E436).ext E447).ext E456).ext E467).ext E483).ext E489).ext E494).ext E499).wr W502 (Nat.ne_of_gt n149))) hb512
  have n521 : b152 < b511 := Nat.lt_of_lt_of_le (Blk.lt (((((((((((((((((((((((((((((((hB217.ext E222).ext E233).ext E242).ext E253).ext E269).ext E275).ext E280).ext E285).wr W288 (Nat.ne_of_gt n158)).ext E300).wr W311 (Nat.ne_of_lt n307)).wr W316 (Nat.ne_of_lt n307)).ext E322).kl E332 nin0).wr W376 (Nat.ne_of_lt n359)).wr W380 (Nat.ne_of_lt n371)).ext E386).ext E398).wr W405 (Nat.ne_of_lt n359)).ext E411).ext E423).wr W430 (Nat.ne_of_lt n371)).ext E436).ext E447).ext E456).ext E467).ext E483).ext E489).ext E494).ext E499).wr W502 (Nat.ne_of_gt n158))) hb512
  have n522 : b297 < b511 := Nat.lt_of_lt_of_le (Blk.lt (((((((((((((((((((hB317.ext E322).kl E332 nin0).wr W376 (Nat.ne_of_lt n361)).wr W380 (Nat.ne_of_lt n373)).ext E386).ext E398).wr W405 (Nat.ne_of_lt n361)).ext E411).ext E423).wr W430 (Nat.ne_of_lt n373)).ext E436).ext E447).ext E456).ext E467).ext E483).ext E489).ext E494).ext E499).wr W502 (Nat.ne_of_gt n308))) hb512
  have n523 : b351 < b511 := Nat.lt_of_lt_of_le (Blk.lt ((((((((((((hB406.ext E411).ext E423).wr W430 (Ne.symm n375)).ext E436).ext E447).ext E456).ext E467).ext E483).ext E489).ext E494).ext E499).wr W502 (Nat.ne_of_gt n360))) hb512
  have n524 : b363 < b511 := Nat.lt_of_lt_of_le (Blk.lt (((((((((hB431.ext E436).ext E447).ext E456).ext E467).ext E483).ext E489).ext E494).ext E499).wr W502 (Nat.ne_of_gt n372))) hb512
  have n525 : b71 < b511 := Nat.lt_of_lt_of_le (Blk.lt hB503) hb512
  have g526 : w.heap.size ≤ b511 := Nat.le_trans (Below.size X505) hb512
  change Blk _ _ [(Fl 0), (Fl 0), (Fl 0)] at hB513
  have X527 := Ext.gr X505 E514
  show wpList _ _ _ _ (fr [_, _, _, _, _, _, _, _, _, _, _, _, _, _, _, _, _, _, _, _, _, _, _, _, _, _, _, _, _, _, _, _, _, _, _, _, _, _, _, _, _, _, _, _, _, _, _, _, _, _, _, _, _, _, _, _, _, _, _, _, _, _, _, _, _, _, _, _, _, _, _, _, _, _, _, _, _, _, _, _, _, _, _, _, _, _, _, _, _, _]) _
  refine seqn rfl rfl (does_store (n := 3) (cs := [(Fl 0), (Fl 0), (Fl 0)]) (u := (.agg #[(Fl 0), (Fl 0), (Fl 0)])) (ev rfl) (ev rfl) Try.sizeOf54 rfl hB513 (Nat.le_of_ble_eq_true rfl) rfl) ?_; rintro _ w530 ⟨rfl, W528, hB529⟩
  change Blk _ _ [(Fl 0), (Fl 0), (Fl 0)] at hB529
  have X531 := Below.wr X527 W528 g526
  refine wpList_nil (hK510 _ _ ?_)
  refine wp_seq_k fun K532 hK532 => ?_
  refine wp_region_lit ?_
  refine q_is rfl rfl (does_move (u := (Iv 2)) (ev rfl)) (by dsimp only [List.set]; try rfl) ?_
  refine q_is rfl rfl (does_fieldAddr (ev rfl) fa33_1) (by dsimp only [List.set]; try rfl) ?_
  refine q_is rfl rfl (does_load (u := (Fl r7)) (ev rfl) Try.isAgg22 (Cells.at (Blk.cells (((((((((((((((((((((((((((((((((((((((((((((((((((hB23.ext E31).ext E39).ext E56).ext E74).wr W81 (Nat.ne_of_lt n76)).ext E95).wr W103 (Nat.ne_of_lt n97)).wr W108 (Nat.ne_of_lt n97)).ext E114).kl E124 nin0).wr W162 (Nat.ne_of_lt n146)).wr W166 (Nat.ne_of_lt n155)).ext E172).ext E184).wr W191 (Nat.ne_of_lt n146)).ext E197).ext E209).wr W216 (Nat.ne_of_lt n155)).ext E222).ext E233).ext E242).ext E253).ext E269).ext E275).ext E280).ext E285).wr W288 (Nat.ne_of_lt n76)).ext E300).wr W311 (Nat.ne_of_lt n302)).wr W316 (Nat.ne_of_lt n302)).ext E322).kl E332 nin0).wr W376 (Nat.ne_of_lt n354)).wr W380 (Nat.ne_of_lt n366)).ext E386).ext E398).wr W405 (Nat.ne_of_lt n354)).ext E411).ext E423).wr W430 (Nat.ne_of_lt n366)).ext E436).ext E447).ext E456).ext E467).ext E483).ext E489).ext E494).ext E499).wr W502 (Nat.ne_of_lt n76)).ext E514).wr W528 (Nat.ne_of_lt n516))) 3 rfl)) (by dsimp only [List.set]; try rfl) ?_
  refine q_is rfl rfl (does_indexAt_run (r := (Pt b511 2)) (ev rfl) (ev rfl) (fun w => ia54_2 _ _ w)) (by dsimp only [List.set]; try rfl) ?_
  refine seqn rfl rfl (does_store (n := 1) (cs := [(Fl 0), (Fl 0), (Fl 0)]) (u := (Fl r7)) (ev rfl) (ev rfl) Try.sizeOf22 rfl hB529 (Nat.le_of_ble_eq_true rfl) rfl) ?_; rintro _ w535 ⟨rfl, W533, hB534⟩
  change Blk _ _ [(Fl 0), (Fl 0), (Fl r7)] at hB534
  have X536 := Below.wr X531 W533 g526
  refine wpList_nil (hK532 _ _ ?_)
  refine wp_seq_k fun K537 hK537 => ?_
  refine region_any3 [] [4, 5] [0, 1, 0, 7, 0, 0, 63, 127] [] (
    [FactW.pure [] [] [] true (fun v => v = (.agg #[(Fl r11), (Fl r13), (Fl r15)])),
      FactW.pure [0] [] [] true (fun v => ∃ r_1 : Nat, ∃ r_2 : Nat, ∃ r_3 : Nat, v = (.agg #[(Fl r_1), (Fl r_2), (Fl r_3)]) ∧ cf .f32 r_1 = A_p.x ∧ cf .f32 r_2 = A_p.y ∧ cf .f32 r_3 = A_p.z),
      FactW.pure [] [] [] true (fun v => v = (.agg #[(Fl r11), (Fl r13), (Fl r15)])),
      FactW.pure [2] [] [] true (fun v => ∃ r_1 : Nat, ∃ r_2 : Nat, ∃ r_3 : Nat, v = (.agg #[(Fl r_1), (Fl r_2), (Fl r_3)]) ∧ cf .f32 r_1 = A_p.x ∧ cf .f32 r_2 = A_p.y ∧ cf .f32 r_3 = A_p.z),
      FactW.mem [] [] [] [] true (fun v w' => ∃ b : Nat, v = .pointer (some ⟨b, 0, none⟩) ∧ w535.heap.size ≤ b ∧ Blk w' b [(Fl 0), (Fl 0), (Fl 0)]) (by rintro v w1 w2 hx' ⟨b, rfl, hb, hB⟩; have hx := KpL.toExt hx'; exact ⟨b, rfl, hb, (hB.ext hx)⟩),
      FactW.mem [] [] [] [] true (fun v w' => ∃ b : Nat, v = .pointer (some ⟨b, 0, none⟩) ∧ w535.heap.size ≤ b ∧ Blk w' b [(Fl 0), (Fl 0), (Fl 0)]) (by rintro v w1 w2 hx' ⟨b, rfl, hb, hB⟩; have hx := KpL.toExt hx'; exact ⟨b, rfl, hb, (hB.ext hx)⟩)]) mixed (by kernel_rfl) ?_
  obtain ⟨w538, hw540⟩ : ∃ w', w' = World.drew w535 := ⟨_, rfl⟩; rw [← hw540]; have E539 : Ext w535 w538 := by rw [hw540]; exact Ext.draw _
  clear hw540
  have X541 := Ext.gr X536 E539
  refine RW3_d _ rfl rfl (fun v => by dsimp only [List.set]; try rfl) (fun u hu hF => ?_) (fun v542 => ?_)
  · replace hu : KpL [] _ _ := hu
    clear hF
    refine doesG_un rfl ?_
    refine (does_loadAgg (cs := [(Fl r11), (Fl r13), (Fl r15)]) (ev rfl) Try.isAgg31 Try.sizeOf31 (Blk.cells (((((((((((((((((((((((((((((((((((((((((((((((((((((hB30.ext E39).ext E56).ext E74).wr W81 (Nat.ne_of_lt n77)).ext E95).wr W103 (Nat.ne_of_lt n98)).wr W108 (Nat.ne_of_lt n98)).ext E114).kl E124 nin0).wr W162 (Nat.ne_of_lt n147)).wr W166 (Nat.ne_of_lt n156)).ext E172).ext E184).wr W191 (Nat.ne_of_lt n147)).ext E197).ext E209).wr W216 (Nat.ne_of_lt n156)).ext E222).ext E233).ext E242).ext E253).ext E269).ext E275).ext E280).ext E285).wr W288 (Nat.ne_of_lt n77)).ext E300).wr W311 (Nat.ne_of_lt n303)).wr W316 (Nat.ne_of_lt n303)).ext E322).kl E332 nin0).wr W376 (Nat.ne_of_lt n355)).wr W380 (Nat.ne_of_lt n367)).ext E386).ext E398).wr W405 (Nat.ne_of_lt n355)).ext E411).ext E423).wr W430 (Nat.ne_of_lt n367)).ext E436).ext E447).ext E456).ext E467).ext E483).ext E489).ext E494).ext E499).wr W502 (Nat.ne_of_lt n77)).ext E514).wr W528 (Nat.ne_of_lt n517)).wr W533 (Nat.ne_of_lt n517)).ext E539).ext (KpL.toExt hu))) rfl).mono ?_; rintro _ _ ⟨rfl, rfl⟩
    exact ⟨rfl, KpL.refl _ _⟩
  refine RW3_d _ rfl rfl (fun v => by dsimp only [List.set]; try rfl) (fun u hu hF => ?_) (fun v543 => ?_)
  · replace hu : KpL [] _ _ := hu
    have h34_ : v542 = (.agg #[(Fl r11), (Fl r13), (Fl r15)]) := hF.1
    clear hF
    refine doesG_un rfl ?_
    obtain rfl := h34_
    refine (does_call (args := #[(.agg #[(Fl r11), (Fl r13), (Fl r15)])]) cal26 (evs rfl) (c_impl_coordinates [(Fl r11), (Fl r13), (Fl r15)] A_p _ ⟨r11, r13, r15, rfl, h12, h14, h16⟩)).mono ?_; rintro v u' ⟨hx, ⟨rn1, rn2, rn3, hv, k0, k1, k2⟩⟩
    exact ⟨⟨rn1, rn2, rn3, hv, (by simp only [k0]), (by simp only [k1]), (by simp only [k2])⟩, (KpL.of_ext hx)⟩
  refine RW3_d _ rfl rfl (fun v => by dsimp only [List.set]; try rfl) (fun u hu hF => ?_) (fun v544 => ?_)
  · replace hu : KpL [] _ _ := hu
    clear hF
    refine doesG_un rfl ?_
    refine (does_loadAgg (cs := [(Fl r11), (Fl r13), (Fl r15)]) (ev rfl) Try.isAgg31 Try.sizeOf31 (Blk.cells (((((((((((((((((((((((((((((((((((((((((((((((((((((hB30.ext E39).ext E56).ext E74).wr W81 (Nat.ne_of_lt n77)).ext E95).wr W103 (Nat.ne_of_lt n98)).wr W108 (Nat.ne_of_lt n98)).ext E114).kl E124 nin0).wr W162 (Nat.ne_of_lt n147)).wr W166 (Nat.ne_of_lt n156)).ext E172).ext E184).wr W191 (Nat.ne_of_lt n147)).ext E197).ext E209).wr W216 (Nat.ne_of_lt n156)).ext E222).ext E233).ext E242).ext E253).ext E269).ext E275).ext E280).ext E285).wr W288 (Nat.ne_of_lt n77)).ext E300).wr W311 (Nat.ne_of_lt n303)).wr W316 (Nat.ne_of_lt n303)).ext E322).kl E332 nin0).wr W376 (Nat.ne_of_lt n355)).wr W380 (Nat.ne_of_lt n367)).ext E386).ext E398).wr W405 (Nat.ne_of_lt n355)).ext E411).ext E423).wr W430 (Nat.ne_of_lt n367)).ext E436).ext E447).ext E456).ext E467).ext E483).ext E489).ext E494).ext E499).wr W502 (Nat.ne_of_lt n77)).ext E514).wr W528 (Nat.ne_of_lt n517)).wr W533 (Nat.ne_of_lt n517)).ext E539).ext (KpL.toExt hu))) rfl).mono ?_; rintro _ _ ⟨rfl, rfl⟩
    exact ⟨rfl, KpL.refl _ _⟩
  refine RW3_d _ rfl rfl (fun v => by dsimp only [List.set]; try rfl) (fun u hu hF => ?_) (fun v545 => ?_)
  · replace hu : KpL [] _ _ := hu
    have h36_ : v544 = (.agg #[(Fl r11), (Fl r13), (Fl r15)]) := hF.1
    clear hF
    refine doesG_un rfl ?_
    obtain rfl := h36_
    refine (does_call (args := #[(.agg #[(Fl r11), (Fl r13), (Fl r15)])]) cal26 (evs rfl) (c_impl_coordinates [(Fl r11), (Fl r13), (Fl r15)] A_p _ ⟨r11, r13, r15, rfl, h12, h14, h16⟩)).mono ?_; rintro v u' ⟨hx, ⟨rn1, rn2, rn3, hv, k0, k1, k2⟩⟩
    exact ⟨⟨rn1, rn2, rn3, hv, (by simp only [k0]), (by simp only [k1]), (by simp only [k2])⟩, (KpL.of_ext hx)⟩
  refine RW3_b _ rfl rfl (fun v => by dsimp only [List.set]; try rfl) (fun u hu hF => ?_) (fun v546 => ?_)
  · replace hu : KpL [] _ _ := hu
    clear hF
    refine doesG_un rfl ?_
    refine (does_alloc z54).mono ?_; rintro _ _ ⟨b, rfl, hb, hB, hx⟩
    exact ⟨⟨b, rfl, Nat.le_trans (Nat.le_trans (Below.size E539) (KpL.size hu)) hb, hB⟩, (KpL.of_ext hx), ⟨b, rfl, hb, hB.lt⟩⟩
  refine RW3_b _ rfl rfl (fun v => by dsimp only [List.set]; try rfl) (fun u hu hF => ?_) (fun v547 => ?_)
  · replace hu : KpL [] _ _ := hu
    clear hF
    refine doesG_un rfl ?_
    refine (does_alloc z54).mono ?_; rintro _ _ ⟨b, rfl, hb, hB, hx⟩
    exact ⟨⟨b, rfl, Nat.le_trans (Nat.le_trans (Below.size E539) (KpL.size hu)) hb, hB⟩, (KpL.of_ext hx), ⟨b, rfl, hb, hB.lt⟩⟩
  refine RW3_fin ?_; intro w548 E549 hP550 hND; replace E549 : KpL [] _ _ := E549
  obtain ⟨⟨⟨⟨⟨⟨-, -⟩, q551⟩, -⟩, q552⟩, q553⟩, q554⟩ := hP550
  have X555 := Below.kl X541 E549 all0 (Nat.le_refl _)
  have q551 : ∃ r_1 : Nat, ∃ r_2 : Nat, ∃ r_3 : Nat, v543 = (.agg #[(Fl r_1), (Fl r_2), (Fl r_3)]) ∧ cf .f32 r_1 = A_p.x ∧ cf .f32 r_2 = A_p.y ∧ cf .f32 r_3 = A_p.z := q551 rfl
  obtain ⟨r556, r558, r560, rfl, h557, h559, h561⟩ := q551
  have q552 : ∃ r_1 : Nat, ∃ r_2 : Nat, ∃ r_3 : Nat, v545 = (.agg #[(Fl r_1), (Fl r_2), (Fl r_3)]) ∧ cf .f32 r_1 = A_p.x ∧ cf .f32 r_2 = A_p.y ∧ cf .f32 r_3 = A_p.z := q552 rfl
  obtain ⟨r562, r564, r566, rfl, h563, h565, h567⟩ := q552
  have q553 : ∃ b : Nat, v546 = .pointer (some ⟨b, 0, none⟩) ∧ w535.heap.size ≤ b ∧ Blk w548 b [(Fl 0), (Fl 0), (Fl 0)] := q553 rfl
  obtain ⟨b568, rfl, hb569, hB570⟩ := q553
  have n571 : b21 < b568 := Nat.lt_of_lt_of_le (Blk.lt ((((((((((((((((((((((((((((((((((((((((((((((((((((hB23.ext E31).ext E39).ext E56).ext E74).wr W81 (Nat.ne_of_lt n76)).ext E95).wr W103 (Nat.ne_of_lt n97)).wr W108 (Nat.ne_of_lt n97)).ext E114).kl E124 nin0).wr W162 (Nat.ne_of_lt n146)).wr W166 (Nat.ne_of_lt n155)).ext E172).ext E184).wr W191 (Nat.ne_of_lt n146)).ext E197).ext E209).wr W216 (Nat.ne_of_lt n155)).ext E222).ext E233).ext E242).ext E253).ext E269).ext E275).ext E280).ext E285).wr W288 (Nat.ne_of_lt n76)).ext E300).wr W311 (Nat.ne_of_lt n302)).wr W316 (Nat.ne_of_lt n302)).ext E322).kl E332 nin0).wr W376 (Nat.ne_of_lt n354)).wr W380 (Nat.ne_of_lt n366)).ext E386).ext E398).wr W405 (Nat.ne_of_lt n354)).ext E411).ext E423).wr W430 (Nat.ne_of_lt n366)).ext E436).ext E447).ext E456).ext E467).ext E483).ext E489).ext E494).ext E499).wr W502 (Nat.ne_of_lt n76)).ext E514).wr W528 (Nat.ne_of_lt n516)).wr W533 (Nat.ne_of_lt n516))) hb569
  have n572 : b28 < b568 := Nat.lt_of_lt_of_le (Blk.lt (((((((((((((((((((((((((((((((((((((((((((((((((((hB30.ext E39).ext E56).ext E74).wr W81 (Nat.ne_of_lt n77)).ext E95).wr W103 (Nat.ne_of_lt n98)).wr W108 (Nat.ne_of_lt n98)).ext E114).kl E124 nin0).wr W162 (Nat.ne_of_lt n147)).wr W166 (Nat.ne_of_lt n156)).ext E172).ext E184).wr W191 (Nat.ne_of_lt n147)).ext E197).ext E209).wr W216 (Nat.ne_of_lt n156)).ext E222).ext E233).ext E242).ext E253).ext E269).ext E275).ext E280).ext E285).wr W288 (Nat.ne_of_lt n77)).ext E300).wr W311 (Nat.ne_of_lt n303)).wr W316 (Nat.ne_of_lt n303)).ext E322).kl E332 nin0).wr W376 (Nat.ne_of_lt n355)).wr W380 (Nat.ne_of_lt n367)).ext E386).ext E398).wr W405 (Nat.ne_of_lt n355)).ext E411).ext E423).wr W430 (Nat.ne_of_lt n367)).ext E436).ext E447).ext E456).ext E467).ext E483).ext E489).ext E494).ext E499).wr W502 (Nat.ne_of_lt n77)).ext E514).wr W528 (Nat.ne_of_lt n517)).wr W533 (Nat.ne_of_lt n517))) hb569
  have n573 : b36 < b568 := Nat.lt_of_lt_of_le (Blk.lt ((((((((((((((((((((((((((((((((((((((((((((((((((hB38.ext E56).ext E74).wr W81 (Nat.ne_of_lt n78)).ext E95).wr W103 (Nat.ne_of_lt n99)).wr W108 (Nat.ne_of_lt n99)).ext E114).kl E124 nin0).wr W162 (Nat.ne_of_lt n148)).wr W166 (Nat.ne_of_lt n157)).ext E172).ext E184).wr W191 (Nat.ne_of_lt n148)).ext E197).ext E209).wr W216 (Nat.ne_of_lt n157)).ext E222).ext E233).ext E242).ext E253).ext E269).ext E275).ext E280).ext E285).wr W288 (Nat.ne_of_lt n78)).ext E300).wr W311 (Nat.ne_of_lt n304)).wr W316 (Nat.ne_of_lt n304)).ext E322).kl E332 nin0).wr W376 (Nat.ne_of_lt n356)).wr W380 (Nat.ne_of_lt n368)).ext E386).ext E398).wr W405 (Nat.ne_of_lt n356)).ext E411).ext E423).wr W430 (Nat.ne_of_lt n368)).ext E436).ext E447).ext E456).ext E467).ext E483).ext E489).ext E494).ext E499).wr W502 (Nat.ne_of_lt n78)).ext E514).wr W528 (Nat.ne_of_lt n518)).wr W533 (Nat.ne_of_lt n518))) hb569
  have n574 : b92 < b568 := Nat.lt_of_lt_of_le (Blk.lt ((((((((((((((((((((((((((((((((((((((((((((hB109.ext E114).kl E124 nin0).wr W162 (Nat.ne_of_lt n150)).wr W166 (Nat.ne_of_lt n159)).ext E172).ext E184).wr W191 (Nat.ne_of_lt n150)).ext E197).ext E209).wr W216 (Nat.ne_of_lt n159)).ext E222).ext E233).ext E242).ext E253).ext E269).ext E275).ext E280).ext E285).wr W288 (Nat.ne_of_gt n100)).ext E300).wr W311 (Nat.ne_of_lt n305)).wr W316 (Nat.ne_of_lt n305)).ext E322).kl E332 nin0).wr W376 (Nat.ne_of_lt n357)).wr W380 (Nat.ne_of_lt n369)).ext E386).ext E398).wr W405 (Nat.ne_of_lt n357)).ext E411).ext E423).wr W430 (Nat.ne_of_lt n369)).ext E436).ext E447).ext E456).ext E467).ext E483).ext E489).ext E494).ext E499).wr W502 (Nat.ne_of_gt n100)).ext E514).wr W528 (Nat.ne_of_lt n519)).wr W533 (Nat.ne_of_lt n519))) hb569
  have n575 : b143 < b568 := Nat.lt_of_lt_of_le (Blk.lt (((((((((((((((((((((((((((((((((((((hB192.ext E197).ext E209).wr W216 (Ne.symm n161)).ext E222).ext E233).ext E242).ext E253).ext E269).ext E275).ext E280).ext E285).wr W288 (Nat.ne_of_gt n149)).ext E300).wr W311 (Nat.ne_of_lt n306)).wr W316 (Nat.ne_of_lt n306)).ext E322).kl E332 nin0).wr W376 (Nat.ne_of_lt n358)).wr W380 (Nat.ne_of_lt n370)).ext E386).ext E398).wr W405 (Nat.ne_of_lt n358)).ext E411).ext E423).wr W430 (Nat.ne_of_lt n370)).ext E436).ext E447).ext E456).ext E467).ext E483).ext E489).ext E494).ext E499).wr W502 (Nat.ne_of_gt n149)).ext E514).wr W528 (Nat.ne_of_lt n520)).wr W533 (Nat.ne_of_lt n520))) hb569
  have n576 : b152 < b568 := Nat.lt_of_lt_of_le (Blk.lt ((((((((((((((((((((((((((((((((((hB217.ext E222).ext E233).ext E242).ext E253).ext E269).ext E275).ext E280).ext E285).wr W288 (Nat.ne_of_gt n158)).ext E300).wr W311 (Nat.ne_of_lt n307)).wr W316 (Nat.ne_of_lt n307)).ext E322).kl E332 nin0).wr W376 (Nat.ne_of_lt n359)).wr W380 (Nat.ne_of_lt n371)).ext E386).ext E398).wr W405 (Nat.ne_of_lt n359)).ext E411).ext E423).wr W430 (Nat.ne_of_lt n371)).ext E436).ext E447).ext E456).ext E467).ext E483).ext E489).ext E494).ext E499).wr W502 (Nat.ne_of_gt n158)).ext E514).wr W528 (Nat.ne_of_lt n521)).wr W533 (Nat.ne_of_lt n521))) hb569
  have n577 : b297 < b568 := Nat.lt_of_lt_of_le (Blk.lt ((((((((((((((((((((((hB317.ext E322).kl E332 nin0).wr W376 (Nat.ne_of_lt n361)).wr W380 (Nat.ne_of_lt n373)).ext E386).ext E398).wr W405 (Nat.ne_of_lt n361)).ext E411).ext E423).wr W430 (Nat.ne_of_lt n373)).ext E436).ext E447).ext E456).ext E467).ext E483).ext E489).ext E494).ext E499).wr W502 (Nat.ne_of_gt n308)).ext E514).wr W528 (Nat.ne_of_lt n522)).wr W533 (Nat.ne_of_lt n522))) hb569
  have n578 : b351 < b568 := Nat.lt_of_lt_of_le (Blk.lt (((((((((((((((hB406.ext E411).ext E423).wr W430 (Ne.symm n375)).ext E436).ext E447).ext E456).ext E467).ext E483).ext E489).ext E494).ext E499).wr W502 (Nat.ne_of_gt n360)).ext E514).wr W528 (Nat.ne_of_lt n523)).wr W533 (Nat.ne_of_lt n523))) hb569
  have n579 : b363 < b568 := Nat.lt_of_lt_of_le (Blk.lt ((((((((((((hB431.ext E436).ext E447).ext E456).ext E467).ext E483).ext E489).ext E494).ext E499).wr W502 (Nat.ne_of_gt n372)).ext E514).wr W528 (Nat.ne_of_lt n524)).wr W533 (Nat.ne_of_lt n524))) hb569
  have n580 : b71 < b568 := Nat.lt_of_lt_of_le (Blk.lt (((hB503.ext E514).wr W528 (Nat.ne_of_lt n525)).wr W533 (Nat.ne_of_lt n525))) hb569
  have n581 : b511 < b568 := Nat.lt_of_lt_of_le (Blk.lt hB534) hb569
  have g582 : w.heap.size ≤ b568 := Nat.le_trans (Below.size X536) hb569
  have q554 : ∃ b : Nat, v547 = .pointer (some ⟨b, 0, none⟩) ∧ w535.heap.size ≤ b ∧ Blk w548 b [(Fl 0), (Fl 0), (Fl 0)] := q554 rfl
  obtain ⟨b583, rfl, hb584, hB585⟩ := q554
  have n586 : b21 < b583 := Nat.lt_of_lt_of_le (Blk.lt ((((((((((((((((((((((((((((((((((((((((((((((((((((hB23.ext E31).ext E39).ext E56).ext E74).wr W81 (Nat.ne_of_lt n76)).ext E95).wr W103 (Nat.ne_of_lt n97)).wr W108 (Nat.ne_of_lt n97)).ext E114).kl E124 nin0).wr W162 (Nat.ne_of_lt n146)).wr W166 (Nat.ne_of_lt n155)).ext E172).ext E184).wr W191 (Nat.ne_of_lt n146)).ext E197).ext E209).wr W216 (Nat.ne_of_lt n155)).ext E222).ext E233).ext E242).ext E253).ext E269).ext E275).ext E280).ext E285).wr W288 (Nat.ne_of_lt n76)).ext E300).wr W311 (Nat.ne_of_lt n302)).wr W316 (Nat.ne_of_lt n302)).ext E322).kl E332 nin0).wr W376 (Nat.ne_of_lt n354)).wr W380 (Nat.ne_of_lt n366)).ext E386).ext E398).wr W405 (Nat.ne_of_lt n354)).ext E411).ext E423).wr W430 (Nat.ne_of_lt n366)).ext E436).ext E447).ext E456).ext E467).ext E483).ext E489).ext E494).ext E499).wr W502 (Nat.ne_of_lt n76)).ext E514).wr W528 (Nat.ne_of_lt n516)).wr W533 (Nat.ne_of_lt n516))) hb584
  have n587 : b28 < b583 := Nat.lt_of_lt_of_le (Blk.lt (((((((((((((((((((((((((((((((((((((((((((((((((((hB30.ext E39).ext E56).ext E74).wr W81 (Nat.ne_of_lt n77)).ext E95).wr W103 (Nat.ne_of_lt n98)).wr W108 (Nat.ne_of_lt n98)).ext E114).kl E124 nin0).wr W162 (Nat.ne_of_lt n147)).wr W166 (Nat.ne_of_lt n156)).ext E172).ext E184).wr W191 (Nat.ne_of_lt n147)).ext E197).ext E209).wr W216 (Nat.ne_of_lt n156)).ext E222).ext E233).ext E242).ext E253).ext E269).ext E275).ext E280).ext E285).wr W288 (Nat.ne_of_lt n77)).ext E300).wr W311 (Nat.ne_of_lt n303)).wr W316 (Nat.ne_of_lt n303)).ext E322).kl E332 nin0).wr W376 (Nat.ne_of_lt n355)).wr W380 (Nat.ne_of_lt n367)).ext E386).ext E398).wr W405 (Nat.ne_of_lt n355)).ext E411).ext E423).wr W430 (Nat.ne_of_lt n367)).ext E436).ext E447).ext E456).ext E467).ext E483).ext E489).ext E494).ext E499).wr W502 (Nat.ne_of_lt n77)).ext E514).wr W528 (Nat.ne_of_lt n517)).wr W533 (Nat.ne_of_lt n517))) hb584
  have n588 : b36 < b583 := Nat.lt_of_lt_of_le (Blk.lt ((((((((((((((((((((((((((((((((((((((((((((((((((hB38.ext E56).ext E74).wr W81 (Nat.ne_of_lt n78)).ext E95).wr W103 (Nat.ne_of_lt n99)).wr W108 (Nat.ne_of_lt n99)).ext E114).kl E124 nin0).wr W162 (Nat.ne_of_lt n148)).wr W166 (Nat.ne_of_lt n157)).ext E172).ext E184).wr W191 (Nat.ne_of_lt n148)).ext E197).ext E209).wr W216 (Nat.ne_of_lt n157)).ext E222).ext E233).ext E242).ext E253).ext E269).ext E275).ext E280).ext E285).wr W288 (Nat.ne_of_lt n78)).ext E300).wr W311 (Nat.ne_of_lt n304)).wr W316 (Nat.ne_of_lt n304)).ext E322).kl E332 nin0).wr W376 (Nat.ne_of_lt n356)).wr W380 (Nat.ne_of_lt n368)).ext E386).ext E398).wr W405 (Nat.ne_of_lt n356)).ext E411).ext E423).wr W430 (Nat.ne_of_lt n368)).ext E436).ext E447).ext E456).ext E467).ext E483).ext E489).ext E494).ext E499).wr W502 (Nat.ne_of_lt n78)).ext E514).wr W528 (Nat.ne_of_lt n518)).wr W533 (Nat.ne_of_lt n518))) hb584
  have n589 : b92 < b583 := Nat.lt_of_lt_of_le (Blk.lt ((((((((((((((((((((((((((((((((((((((((((((hB109.ext E114).kl E124 nin0).wr W162 (Nat.ne_of_lt n150)).wr W166 (Nat.ne_of_lt n159)).ext E172).ext E184).wr W191 (Nat.ne_of_lt n150)).ext E197).ext E209).wr W216 (Nat.ne_of_lt n159)).ext E222).ext E233).ext E242).ext E253).ext E269).ext E275).ext E280).ext E285).wr W288 (Nat.ne_of_gt n100)).ext E300).wr W311 (Nat.ne_of_lt n305)).wr W316 (Nat.ne_of_lt n305)).ext E322).kl E332 nin0).wr W376 (Nat.ne_of_lt n357)).wr W380 (Nat.ne_of_lt n369)).ext E386).ext E398).wr W405 (Nat.ne_of_lt n357)).ext E411).ext E423).wr W430 (Nat.ne_of_lt n369)).ext E436).ext E447).ext E456).ext E467).ext E483).ext E489).ext E494).ext E499).wr W502 (Nat.ne_of_gt n100)).ext E514).wr W528 (Nat.ne_of_lt n519)).wr W533 (Nat.ne_of_lt n519))) hb584
  have n590 : b143 < b583 := Nat.lt_of_lt_of_le (Blk.lt (((((((((((((((((((((((((((((((((((((hB192.ext E197).ext E209).wr W216 (Ne.symm n161)).ext E222).ext E233).ext E242).ext E253).ext E269).ext E275).ext E280).ext E285).wr W288 (Nat.ne_of_gt n149)).ext E300).wr W311 (Nat.ne_of_lt n306)).wr W316 (Nat.ne_of_lt n306)).ext E322).kl E332 nin0).wr W376 (Nat.ne_of_lt n358)).wr W380 (Nat.ne_of_lt n370)).ext E386).ext E398).wr W405 (Nat.ne_of_lt n358)).ext E411).ext E423).wr W430 (Nat.ne_of_lt n370)).ext E436).ext E447).ext E456).ext E467).ext E483).ext E489).ext E494).ext E499).wr W502 (Nat.ne_of_gt n149)).ext E514).wr W528 (Nat.ne_of_lt n520)).wr W533 (Nat.ne_of_lt n520))) hb584
  have n591 : b152 < b583 := Nat.lt_of_lt_of_le (Blk.lt ((((((((((((((((((((((((((((((((((hB217.ext E222).ext E233).ext E242).ext E253).ext E269).ext E275).ext E280).ext E285).wr W288 (Nat.ne_of_gt n158)).ext E300).wr W311 (Nat.ne_of_lt n307)).wr W316 (Nat.ne_of_lt n307)).ext E322).kl E332 nin0).wr W376 (Nat.ne_of_lt n359)).wr W380 (Nat.ne_of_lt n371)).ext E386).ext E398).wr W405 (Nat.ne_of_lt n359)).ext E411).ext E423).wr W430 (Nat.ne_of_lt n371)).ext E436).ext E447).ext E456).ext E467).ext E483).ext E489).ext E494).ext E499).wr W502 (Nat.ne_of_gt n158)).ext E514).wr W528 (Nat.ne_of_lt n521)).wr W533 (Nat.ne_of_lt n521))) hb584
  have n592 : b297 < b583 := Nat.lt_of_lt_of_le (Blk.lt ((((((((((((((((((((((hB317.ext E322).kl E332 nin0).wr W376 (Nat.ne_of_lt n361)).wr W380 (Nat.ne_of_lt n373)).ext E386).ext E398).wr W405 (Nat.ne_of_lt n361)).ext E411).ext E423).wr W430 (Nat.ne_of_lt n373)).ext E436).ext E447).ext E456).ext E467).ext E483).ext E489).ext E494).ext E499).wr W502 (Nat.ne_of_gt n308)).ext E514).wr W528 (Nat.ne_of_lt n522)).wr W533 (Nat.ne_of_lt n522))) hb584
  have n593 : b351 < b583 := Nat.lt_of_lt_of_le (Blk.lt (((((((((((((((hB406.ext E411).ext E423).wr W430 (Ne.symm n375)).ext E436).ext E447).ext E456).ext E467).ext E483).ext E489).ext E494).ext E499).wr W502 (Nat.ne_of_gt n360)).ext E514).wr W528 (Nat.ne_of_lt n523)).wr W533 (Nat.ne_of_lt n523))) hb584
  have n594 : b363 < b583 := Nat.lt_of_lt_of_le (Blk.lt ((((((((((((hB431.ext E436).ext E447).ext E456).ext E467).ext E483).ext E489).ext E494).ext E499).wr W502 (Nat.ne_of_gt n372)).ext E514).wr W528 (Nat.ne_of_lt n524)).wr W533 (Nat.ne_of_lt n524))) hb584
  have n595 : b71 < b583 := Nat.lt_of_lt_of_le (Blk.lt (((hB503.ext E514).wr W528 (Nat.ne_of_lt n525)).wr W533 (Nat.ne_of_lt n525))) hb584
  have n596 : b511 < b583 := Nat.lt_of_lt_of_le (Blk.lt hB534) hb584
  have g597 : w.heap.size ≤ b583 := Nat.le_trans (Below.size X536) hb584
  have n598 : b583 ≠ b568 := by intro h; subst h; simp at hND
  clear hND
  show wpList _ _ _ _ (fr [_, _, _, _, _, _, _, _, _, _, _, _, _, _, _, _, _, _, _, _, _, _, _, _, _, _, _, _, _, _, _, _, _, _, _, _, _, _, _, _, _, _, _, _, _, _, _, _, _, _, _, _, _, _, _, _, _, _, _, _, _, _, _, _, _, _, _, _, _, _, _, _, _, _, _, _, _, _, _, _, _, _, _, _, _, _, _, _, _, _]) _
  refine seqn rfl rfl (does_store (n := 3) (cs := [(Fl 0), (Fl 0), (Fl 0)]) (u := (.agg #[(Fl r556), (Fl r558), (Fl r560)])) (ev rfl) (ev rfl) Try.sizeOf54 rfl hB570 (Nat.le_of_ble_eq_true rfl) rfl) ?_; rintro _ w601 ⟨rfl, W599, hB600⟩
  change Blk _ _ [(Fl r556), (Fl r558), (Fl r560)] at hB600
  have X602 := Below.wr X555 W599 g582
  refine seqn rfl rfl (does_store (n := 3) (cs := [(Fl 0), (Fl 0), (Fl 0)]) (u := (.agg #[(Fl r562), (Fl r564), (Fl r566)])) (ev rfl) (ev rfl) Try.sizeOf54 rfl (hB585.wr W599 n598) (Nat.le_of_ble_eq_true rfl) rfl) ?_; rintro _ w605 ⟨rfl, W603, hB604⟩
  change Blk _ _ [(Fl r562), (Fl r564), (Fl r566)] at hB604
  have X606 := Below.wr X602 W603 g597
  refine wpList_nil (hK537 _ _ ?_)
  refine wp_seq_k fun K607 hK607 => ?_
  refine region_draw (
    [Fact.pure [] (fun v => v = (Iv 2)),
    Fact.pure [38] (fun v => v = (Pt b568 2)),
    Fact.pure [39] (fun v => v = (Fl r560)),
    Fact.pure [] (fun v => v = (Iv 2)),
    Fact.pure [41] (fun v => v = (Pt b511 2)),
    Fact.pure [42] (fun v => v = (Fl r7)),
    Fact.pure [40, 43] (fun v => ∃ r_1 : Nat, v = (Fl r_1) ∧ cf .f32 r_1 = fop .add .f32 (cf .f32 r560) (cf .f32 r7)),
    Fact.pure [38] (fun v => v = (Pt b568 2))]) mixed (by kernel_rfl) (by intro _ _ d _ _ h; cases d <;> exact h) ?_
  obtain ⟨w608, hw610⟩ : ∃ w', w' = World.drew w605 := ⟨_, rfl⟩; rw [← hw610]; have E609 : Ext w605 w608 := by rw [hw610]; exact Ext.draw _
  clear hw610
  have X611 := Ext.gr X606 E609
  refine RW_d _ rfl (fun v => by dsimp only [List.set]; try rfl) (fun u hu hF => ?_) (fun v612 => ?_)
  · clear hF
    refine doesG_un rfl ?_
    refine (does_move (u := (Iv 2)) (ev rfl)).mono ?_; rintro _ _ ⟨rfl, rfl⟩
    exact ⟨rfl, Ext.refl _⟩
  refine RW_d _ rfl (fun v => by dsimp only [List.set]; try rfl) (fun u hu hF => ?_) (fun v613 => ?_)
  · have h38_ : v612 = (Iv 2) := hF.1
    clear hF
    refine doesG_un rfl ?_
    obtain rfl := h38_
    refine (does_indexAt_run (r := (Pt b568 2)) (ev rfl) (ev rfl) (fun w => ia54_2 _ _ w)).mono ?_; rintro _ _ ⟨rfl, rfl⟩
    exact ⟨rfl, Ext.refl _⟩
  refine RW_d _ rfl (fun v => by dsimp only [List.set]; try rfl) (fun u hu hF => ?_) (fun v614 => ?_)
  · have h39_ : v613 = (Pt b568 2) := hF.1
    clear hF
    refine doesG_un rfl ?_
    obtain rfl := h39_
    refine (does_load (u := (Fl r560)) (ev rfl) Try.isAgg22 (Cells.at (Blk.cells (((hB600.wr W603 (Ne.symm n598)).ext E609).ext hu)) 2 rfl)).mono ?_; rintro _ _ ⟨rfl, rfl⟩
    exact ⟨rfl, Ext.refl _⟩
  refine RW_d _ rfl (fun v => by dsimp only [List.set]; try rfl) (fun u hu hF => ?_) (fun v615 => ?_)
  · clear hF
    refine doesG_un rfl ?_
    refine (does_move (u := (Iv 2)) (ev rfl)).mono ?_; rintro _ _ ⟨rfl, rfl⟩
    exact ⟨rfl, Ext.refl _⟩
  refine RW_d _ rfl (fun v => by dsimp only [List.set]; try rfl) (fun u hu hF => ?_) (fun v616 => ?_)
  · have h41_ : v615 = (Iv 2) := hF.1
    clear hF
    refine doesG_un rfl ?_
    obtain rfl := h41_
    refine (does_indexAt_run (r := (Pt b511 2)) (ev rfl) (ev rfl) (fun w => ia54_2 _ _ w)).mono ?_; rintro _ _ ⟨rfl, rfl⟩
    exact ⟨rfl, Ext.refl _⟩
  refine RW_d _ rfl (fun v => by dsimp only [List.set]; try rfl) (fun u hu hF => ?_) (fun v617 => ?_)
  · have h42_ : v616 = (Pt b511 2) := hF.1
    clear hF
    refine doesG_un rfl ?_
    obtain rfl := h42_
    refine (does_load (u := (Fl r7)) (ev rfl) Try.isAgg22 (Cells.at (Blk.cells ((((((hB534.ext E539).kl E549 nin0).wr W599 (Nat.ne_of_lt n581)).wr W603 (Nat.ne_of_lt n596)).ext E609).ext hu)) 2 rfl)).mono ?_; rintro _ _ ⟨rfl, rfl⟩
    exact ⟨rfl, Ext.refl _⟩
  refine RW_d _ rfl (fun v => by dsimp only [List.set]; try rfl) (fun u hu hF => ?_) (fun v618 => ?_)
  · have h40_ : v614 = (Fl r560) := hF.1
    have h43_ : v617 = (Fl r7) := hF.2.1
    clear hF
    refine doesG_un rfl ?_
    obtain rfl := h40_
    obtain rfl := h43_
    refine (does_float (.inl rfl) (ev rfl) (ev rfl)).mono ?_; rintro _ _ ⟨r, rfl, hr, hx⟩
    exact ⟨⟨r, rfl, (by simp only [hr])⟩, hx⟩
  refine RW_d _ rfl (fun v => by dsimp only [List.set]; try rfl) (fun u hu hF => ?_) (fun v619 => ?_)
  · have h38_ : v612 = (Iv 2) := hF.1
    clear hF
    refine doesG_un rfl ?_
    obtain rfl := h38_
    refine (does_indexAt_run (r := (Pt b568 2)) (ev rfl) (ev rfl) (fun w => ia54_2 _ _ w)).mono ?_; rintro _ _ ⟨rfl, rfl⟩
    exact ⟨rfl, Ext.refl _⟩
  refine RW_fin ?_; intro w620 E621 hP622
  obtain ⟨⟨⟨⟨⟨⟨⟨⟨-, -⟩, -⟩, -⟩, -⟩, -⟩, -⟩, q623⟩, q624⟩ := hP622
  have X625 := Ext.gr X611 E621
  have q623 : ∃ r_1 : Nat, v618 = (Fl r_1) ∧ cf .f32 r_1 = fop .add .f32 (cf .f32 r560) (cf .f32 r7) := q623
  obtain ⟨r626, rfl, h627⟩ := q623
  have q624 : v619 = (Pt b568 2) := q624
  obtain rfl := q624
  show wpList _ _ _ _ (fr [_, _, _, _, _, _, _, _, _, _, _, _, _, _, _, _, _, _, _, _, _, _, _, _, _, _, _, _, _, _, _, _, _, _, _, _, _, _, _, _, _, _, _, _, _, _, _, _, _, _, _, _, _, _, _, _, _, _, _, _, _, _, _, _, _, _, _, _, _, _, _, _, _, _, _, _, _, _, _, _, _, _, _, _, _, _, _, _, _, _]) _
  refine seqn rfl rfl (does_store (n := 1) (cs := [(Fl r556), (Fl r558), (Fl r560)]) (u := (Fl r626)) (ev rfl) (ev rfl) Try.sizeOf22 rfl (((hB600.wr W603 (Ne.symm n598)).ext E609).ext E621) (Nat.le_of_ble_eq_true rfl) rfl) ?_; rintro _ w630 ⟨rfl, W628, hB629⟩
  change Blk _ _ [(Fl r556), (Fl r558), (Fl r626)] at hB629
  have X631 := Below.wr X625 W628 g582
  refine wpList_nil (hK607 _ _ ?_)
  refine wp_seq_k fun K632 hK632 => ?_
  refine region_draw (
    [Fact.pure [] (fun v => v = (Iv 2)),
    Fact.pure [46] (fun v => v = (Pt b583 2)),
    Fact.pure [47] (fun v => v = (Fl r566)),
    Fact.pure [] (fun v => v = (Iv 2)),
    Fact.pure [49] (fun v => v = (Pt b511 2)),
    Fact.pure [50] (fun v => v = (Fl r7)),
    Fact.pure [48, 51] (fun v => ∃ r_1 : Nat, v = (Fl r_1) ∧ cf .f32 r_1 = fop .sub .f32 (cf .f32 r566) (cf .f32 r7)),
    Fact.pure [46] (fun v => v = (Pt b583 2))]) mixed (by kernel_rfl) (by intro _ _ d _ _ h; cases d <;> exact h) ?_
  obtain ⟨w633, hw635⟩ : ∃ w', w' = World.drew w630 := ⟨_, rfl⟩; rw [← hw635]; have E634 : Ext w630 w633 := by rw [hw635]; exact Ext.draw _
  clear hw635
  have X636 := Ext.gr X631 E634
  refine RW_d _ rfl (fun v => by dsimp only [List.set]; try rfl) (fun u hu hF => ?_) (fun v637 => ?_)
  · clear hF
    refine doesG_un rfl ?_
    refine (does_move (u := (Iv 2)) (ev rfl)).mono ?_; rintro _ _ ⟨rfl, rfl⟩
    exact ⟨rfl, Ext.refl _⟩
  refine RW_d _ rfl (fun v => by dsimp only [List.set]; try rfl) (fun u hu hF => ?_) (fun v638 => ?_)
  · have h46_ : v637 = (Iv 2) := hF.1
    clear hF
    refine doesG_un rfl ?_
    obtain rfl := h46_
    refine (does_indexAt_run (r := (Pt b583 2)) (ev rfl) (ev rfl) (fun w => ia54_2 _ _ w)).mono ?_; rintro _ _ ⟨rfl, rfl⟩
    exact ⟨rfl, Ext.refl _⟩
  refine RW_d _ rfl (fun v => by dsimp only [List.set]; try rfl) (fun u hu hF => ?_) (fun v639 => ?_)
  · have h47_ : v638 = (Pt b583 2) := hF.1
    clear hF
    refine doesG_un rfl ?_
    obtain rfl := h47_
    refine (does_load (u := (Fl r566)) (ev rfl) Try.isAgg22 (Cells.at (Blk.cells (((((hB604.ext E609).ext E621).wr W628 n598).ext E634).ext hu)) 2 rfl)).mono ?_; rintro _ _ ⟨rfl, rfl⟩
    exact ⟨rfl, Ext.refl _⟩
  refine RW_d _ rfl (fun v => by dsimp only [List.set]; try rfl) (fun u hu hF => ?_) (fun v640 => ?_)
  · clear hF
    refine doesG_un rfl ?_
    refine (does_move (u := (Iv 2)) (ev rfl)).mono ?_; rintro _ _ ⟨rfl, rfl⟩
    exact ⟨rfl, Ext.refl _⟩
  refine RW_d _ rfl (fun v => by dsimp only [List.set]; try rfl) (fun u hu hF => ?_) (fun v641 => ?_)
  · have h49_ : v640 = (Iv 2) := hF.1
    clear hF
    refine doesG_un rfl ?_
    obtain rfl := h49_
    refine (does_indexAt_run (r := (Pt b511 2)) (ev rfl) (ev rfl) (fun w => ia54_2 _ _ w)).mono ?_; rintro _ _ ⟨rfl, rfl⟩
    exact ⟨rfl, Ext.refl _⟩
  refine RW_d _ rfl (fun v => by dsimp only [List.set]; try rfl) (fun u hu hF => ?_) (fun v642 => ?_)
  · have h50_ : v641 = (Pt b511 2) := hF.1
    clear hF
    refine doesG_un rfl ?_
    obtain rfl := h50_
    refine (does_load (u := (Fl r7)) (ev rfl) Try.isAgg22 (Cells.at (Blk.cells (((((((((hB534.ext E539).kl E549 nin0).wr W599 (Nat.ne_of_lt n581)).wr W603 (Nat.ne_of_lt n596)).ext E609).ext E621).wr W628 (Nat.ne_of_lt n581)).ext E634).ext hu)) 2 rfl)).mono ?_; rintro _ _ ⟨rfl, rfl⟩
    exact ⟨rfl, Ext.refl _⟩
  refine RW_d _ rfl (fun v => by dsimp only [List.set]; try rfl) (fun u hu hF => ?_) (fun v643 => ?_)
  · have h48_ : v639 = (Fl r566) := hF.1
    have h51_ : v642 = (Fl r7) := hF.2.1
    clear hF
    refine doesG_un rfl ?_
    obtain rfl := h48_
    obtain rfl := h51_
    refine (does_float (.inr (.inl rfl)) (ev rfl) (ev rfl)).mono ?_; rintro _ _ ⟨r, rfl, hr, hx⟩
    exact ⟨⟨r, rfl, (by simp only [hr])⟩, hx⟩
  refine RW_d _ rfl (fun v => by dsimp only [List.set]; try rfl) (fun u hu hF => ?_) (fun v644 => ?_)
  · have h46_ : v637 = (Iv 2) := hF.1
    clear hF
    refine doesG_un rfl ?_
    obtain rfl := h46_
    refine (does_indexAt_run (r := (Pt b583 2)) (ev rfl) (ev rfl) (fun w => ia54_2 _ _ w)).mono ?_; rintro _ _ ⟨rfl, rfl⟩
    exact ⟨rfl, Ext.refl _⟩
  refine RW_fin ?_; intro w645 E646 hP647
  obtain ⟨⟨⟨⟨⟨⟨⟨⟨-, -⟩, -⟩, -⟩, -⟩, -⟩, -⟩, q648⟩, q649⟩ := hP647
  have X650 := Ext.gr X636 E646
  have q648 : ∃ r_1 : Nat, v643 = (Fl r_1) ∧ cf .f32 r_1 = fop .sub .f32 (cf .f32 r566) (cf .f32 r7) := q648
  obtain ⟨r651, rfl, h652⟩ := q648
  have q649 : v644 = (Pt b583 2) := q649
  obtain rfl := q649
  show wpList _ _ _ _ (fr [_, _, _, _, _, _, _, _, _, _, _, _, _, _, _, _, _, _, _, _, _, _, _, _, _, _, _, _, _, _, _, _, _, _, _, _, _, _, _, _, _, _, _, _, _, _, _, _, _, _, _, _, _, _, _, _, _, _, _, _, _, _, _, _, _, _, _, _, _, _, _, _, _, _, _, _, _, _, _, _, _, _, _, _, _, _, _, _, _, _]) _
  refine seqn rfl rfl (does_store (n := 1) (cs := [(Fl r562), (Fl r564), (Fl r566)]) (u := (Fl r651)) (ev rfl) (ev rfl) Try.sizeOf22 rfl (((((hB604.ext E609).ext E621).wr W628 n598).ext E634).ext E646) (Nat.le_of_ble_eq_true rfl) rfl) ?_; rintro _ w655 ⟨rfl, W653, hB654⟩
  change Blk _ _ [(Fl r562), (Fl r564), (Fl r651)] at hB654
  have X656 := Below.wr X650 W653 g597
  refine wpList_nil (hK632 _ _ ?_)
  refine wp_seq_k fun K657 hK657 => ?_
  obtain ⟨β7, hβ7⟩ : ∃ b : Bool, b = (vbtOk A_g (V3.mk (cf .f32 r556) (cf .f32 r558) (cf .f32 r626))) := ⟨_, rfl⟩
  refine region_draw (
    [Fact.pure [] (fun v => v = (.agg #[(Fl r1), (Fl r3), (Fl r5), (Fl r7), (Iv A_g.x), (Iv A_g.y), (Iv A_g.z), (.slice p17 A_g.vals.length q18)])),
    Fact.pure [] (fun v => v = (.agg #[(Fl r556), (Fl r558), (Fl r626)])),
    Fact.pure [56] (fun v => ∃ cs_1 : List Value, v = (.agg cs_1.toArray) ∧ RV3 w (V3.mk (cf .f32 r556) (cf .f32 r558) (cf .f32 r626)) cs_1),
    Fact.pure [55, 57] (fun v => ∃ r_1 : Nat, v = (.tuple #[(Fl r_1), (Bo (vbtOk A_g (V3.mk (cf .f32 r556) (cf .f32 r558) (cf .f32 r626))))]) ∧ cf .f32 r_1 = vbtG A_g (V3.mk (cf .f32 r556) (cf .f32 r558) (cf .f32 r626))),
    Fact.pure [58] (fun v => ∃ r_1 : Nat, v = (.tuple #[(Fl r_1), (Bo (vbtOk A_g (V3.mk (cf .f32 r556) (cf .f32 r558) (cf .f32 r626))))]) ∧ cf .f32 r_1 = vbtG A_g (V3.mk (cf .f32 r556) (cf .f32 r558) (cf .f32 r626))),
    Fact.pure [54] (fun v => ∃ r_1 : Nat, v = (Fl r_1) ∧ cf .f32 r_1 = vbtG A_g (V3.mk (cf .f32 r556) (cf .f32 r558) (cf .f32 r626))),
    Fact.flt [54] (fun v => v = (Bo β7))]) mixed (by kernel_rfl) (by intro _ _ d _ _ h; cases d <;> exact h) ?_
  obtain ⟨w658, hw660⟩ : ∃ w', w' = World.drew w655 := ⟨_, rfl⟩; rw [← hw660]; have E659 : Ext w655 w658 := by rw [hw660]; exact Ext.draw _
  clear hw660
  have X661 := Ext.gr X656 E659
  refine RW_d _ rfl (fun v => by dsimp only [List.set]; try rfl) (fun u hu hF => ?_) (fun v662 => ?_)
  · clear hF
    refine doesG_un rfl ?_
    refine (does_loadAgg (cs := [(Fl r1), (Fl r3), (Fl r5), (Fl r7), (Iv A_g.x), (Iv A_g.y), (Iv A_g.z), (.slice p17 A_g.vals.length q18)]) (ev rfl) Try.isAgg33 Try.sizeOf33 (Blk.cells ((((((((((((((((((((((((((((((((((((((((((((((((((((((((((((((((hB23.ext E31).ext E39).ext E56).ext E74).wr W81 (Nat.ne_of_lt n76)).ext E95).wr W103 (Nat.ne_of_lt n97)).wr W108 (Nat.ne_of_lt n97)).ext E114).kl E124 nin0).wr W162 (Nat.ne_of_lt n146)).wr W166 (Nat.ne_of_lt n155)).ext E172).ext E184).wr W191 (Nat.ne_of_lt n146)).ext E197).ext E209).wr W216 (Nat.ne_of_lt n155)).ext E222).ext E233).ext E242).ext E253).ext E269).ext E275).ext E280).ext E285).wr W288 (Nat.ne_of_lt n76)).ext E300).wr W311 (Nat.ne_of_lt n302)).wr W316 (Nat.ne_of_lt n302)).ext E322).kl E332 nin0).wr W376 (Nat.ne_of_lt n354)).wr W380 (Nat.ne_of_lt n366)).ext E386).ext E398).wr W405 (Nat.ne_of_lt n354)).ext E411).ext E423).wr W430 (Nat.ne_of_lt n366)).ext E436).ext E447).ext E456).ext E467).ext E483).ext E489).ext E494).ext E499).wr W502 (Nat.ne_of_lt n76)).ext E514).wr W528 (Nat.ne_of_lt n516)).wr W533 (Nat.ne_of_lt n516)).ext E539).kl E549 nin0).wr W599 (Nat.ne_of_lt n571)).wr W603 (Nat.ne_of_lt n586)).ext E609).ext E621).wr W628 (Nat.ne_of_lt n571)).ext E634).ext E646).wr W653 (Nat.ne_of_lt n586)).ext E659).ext hu)) rfl).mono ?_; rintro _ _ ⟨rfl, rfl⟩
    exact ⟨rfl, Ext.refl _⟩
  refine RW_d _ rfl (fun v => by dsimp only [List.set]; try rfl) (fun u hu hF => ?_) (fun v663 => ?_)
  · clear hF
    refine doesG_un rfl ?_
    refine (does_loadAgg (cs := [(Fl r556), (Fl r558), (Fl r626)]) (ev rfl) Try.isAgg54 Try.sizeOf54 (Blk.cells (((((hB629.ext E634).ext E646).wr W653 (Ne.symm n598)).ext E659).ext hu)) rfl).mono ?_; rintro _ _ ⟨rfl, rfl⟩
    exact ⟨rfl, Ext.refl _⟩
  refine RW_d _ rfl (fun v => by dsimp only [List.set]; try rfl) (fun u hu hF => ?_) (fun v664 => ?_)
  · have h56_ : v663 = (.agg #[(Fl r556), (Fl r558), (Fl r626)]) := hF.1
    clear hF
    refine doesG_un rfl ?_
    obtain rfl := h56_
    refine (does_call (args := #[(.agg #[(Fl r556), (Fl r558), (Fl r626)])]) cal27 (evs rfl) (c_impl_vectorOf r556 r558 r626 _)).mono ?_; rintro v u' ⟨hx, ⟨csn1, hv, k0⟩⟩
    exact ⟨⟨csn1, hv, k0⟩, hx⟩
  refine RW_d _ rfl (fun v => by dsimp only [List.set]; try rfl) (fun u hu hF => ?_) (fun v665 => ?_)
  · have h55_ : v662 = (.agg #[(Fl r1), (Fl r3), (Fl r5), (Fl r7), (Iv A_g.x), (Iv A_g.y), (Iv A_g.z), (.slice p17 A_g.vals.length q18)]) := hF.1
    have h57_ : ∃ cs_1 : List Value, v664 = (.agg cs_1.toArray) ∧ RV3 w (V3.mk (cf .f32 r556) (cf .f32 r558) (cf .f32 r626)) cs_1 := hF.2.1
    clear hF
    refine doesG_un rfl ?_
    obtain rfl := h55_
    obtain ⟨_, rfl, ⟨r57_1, r57_3, r57_5, rfl, h57_2, h57_4, h57_6⟩⟩ := h57_
    refine (does_call (args := #[(.agg #[(Fl r1), (Fl r3), (Fl r5), (Fl r7), (Iv A_g.x), (Iv A_g.y), (Iv A_g.z), (.slice p17 A_g.vals.length q18)]), (.agg #[(Fl r57_1), (Fl r57_3), (Fl r57_5)])]) cal9 (evs rfl) (c_impl_ValueBetween [(Fl r1), (Fl r3), (Fl r5), (Fl r7), (Iv A_g.x), (Iv A_g.y), (Iv A_g.z), (.slice p17 A_g.vals.length q18)] A_g [(Fl r57_1), (Fl r57_3), (Fl r57_5)] (V3.mk (cf .f32 r556) (cf .f32 r558) (cf .f32 r626)) _ ⟨r1, r3, r5, r7, (.slice p17 A_g.vals.length q18), rfl, h2, h4, h6, h8, (Sl.ext (Sl.ext hs19 RF.mono (Ext.gr X656 E659)) RF.mono hu)⟩ ⟨r57_1, r57_3, r57_5, rfl, (by assumption), (by assumption), (by assumption)⟩)).mono ?_; rintro v u' ⟨hx, ⟨rn1, hv, k0⟩⟩
    exact ⟨⟨rn1, hv.trans (by simp only [h57_2, h57_4, h57_6]), (by simp only [k0, h57_2, h57_4, h57_6])⟩, hx⟩
  refine RW_d _ rfl (fun v => by dsimp only [List.set]; try rfl) (fun u hu hF => ?_) (fun v666 => ?_)
  · have h58_ : ∃ r_1 : Nat, v665 = (.tuple #[(Fl r_1), (Bo (vbtOk A_g (V3.mk (cf .f32 r556) (cf .f32 r558) (cf .f32 r626))))]) ∧ cf .f32 r_1 = vbtG A_g (V3.mk (cf .f32 r556) (cf .f32 r558) (cf .f32 r626)) := hF.1
    clear hF
    refine doesG_un rfl ?_
    obtain ⟨r58_1, rfl, h58_2⟩ := h58_
    refine (does_move (u := (.tuple #[(Fl r58_1), (Bo (vbtOk A_g (V3.mk (cf .f32 r556) (cf .f32 r558) (cf .f32 r626))))])) (ev rfl)).mono ?_; rintro _ _ ⟨rfl, rfl⟩
    exact ⟨⟨r58_1, rfl, (by simp only [h58_2])⟩, Ext.refl _⟩
  refine RW_d _ rfl (fun v => by dsimp only [List.set]; try rfl) (fun u hu hF => ?_) (fun v667 => ?_)
  · have h54_ : ∃ r_1 : Nat, v666 = (.tuple #[(Fl r_1), (Bo (vbtOk A_g (V3.mk (cf .f32 r556) (cf .f32 r558) (cf .f32 r626))))]) ∧ cf .f32 r_1 = vbtG A_g (V3.mk (cf .f32 r556) (cf .f32 r558) (cf .f32 r626)) := hF.1
    clear hF
    refine doesG_un rfl ?_
    obtain ⟨r54_1, rfl, h54_2⟩ := h54_
    refine (does_extract (vs := #[(Fl r54_1), (Bo (vbtOk A_g (V3.mk (cf .f32 r556) (cf .f32 r558) (cf .f32 r626))))]) (u := (Fl r54_1)) (ev rfl) rfl).mono ?_; rintro _ _ ⟨rfl, rfl⟩
    exact ⟨⟨r54_1, rfl, (by simp only [h54_2])⟩, Ext.refl _⟩
  refine RW_d _ rfl (fun v => by dsimp only [List.set]; try rfl) (fun u hu hF => ?_) (fun v668 => ?_)
  · have h54_ : ∃ r_1 : Nat, v666 = (.tuple #[(Fl r_1), (Bo (vbtOk A_g (V3.mk (cf .f32 r556) (cf .f32 r558) (cf .f32 r626))))]) ∧ cf .f32 r_1 = vbtG A_g (V3.mk (cf .f32 r556) (cf .f32 r558) (cf .f32 r626)) := hF.1
    clear hF
    obtain ⟨r54_1, rfl, h54_2⟩ := h54_
    exact ⟨_, yields_is rfl (run_extract (ev rfl) rfl), (by first | rfl | (show _ = _; simp only [hβ7, h54_2]; done) | (show _ = _; simp only [hβ7, h54_2]; rfl))⟩
  refine RW_fin ?_; intro w669 E670 hP671
  obtain ⟨⟨⟨⟨⟨⟨⟨-, -⟩, -⟩, -⟩, -⟩, -⟩, q672⟩, q673⟩ := hP671
  have X674 := Ext.gr X661 E670
  have q672 : ∃ r_1 : Nat, v667 = (Fl r_1) ∧ cf .f32 r_1 = vbtG A_g (V3.mk (cf .f32 r556) (cf .f32 r558) (cf .f32 r626)) := q672
  obtain ⟨r675, rfl, h676⟩ := q672
  have q673 : v668 = (Bo β7) := q673
  obtain rfl := q673
  show wpList _ _ _ _ (fr [_, _, _, _, _, _, _, _, _, _, _, _, _, _, _, _, _, _, _, _, _, _, _, _, _, _, _, _, _, _, _, _, _, _, _, _, _, _, _, _, _, _, _, _, _, _, _, _, _, _, _, _, _, _, _, _, _, _, _, _, _, _, _, _, _, _, _, _, _, _, _, _, _, _, _, _, _, _, _, _, _, _, _, _, _, _, _, _, _, _]) _
  refine q_is rfl rfl (does_assign (u := (Fl r675)) (ev rfl)) (by dsimp only [List.set]; try rfl) ?_
  refine q_is rfl rfl (does_assign (u := (Bo β7)) (ev rfl)) (by dsimp only [List.set]; try rfl) ?_
  refine wpList_nil (hK657 _ _ ?_)
  refine wp_seq_k fun K677 hK677 => ?_
  obtain ⟨β8, hβ8⟩ : ∃ b : Bool, b = (vbtOk A_g (V3.mk (cf .f32 r562) (cf .f32 r564) (cf .f32 r651))) := ⟨_, rfl⟩
  refine region_draw (
    [Fact.pure [] (fun v => v = (.agg #[(Fl r1), (Fl r3), (Fl r5), (Fl r7), (Iv A_g.x), (Iv A_g.y), (Iv A_g.z), (.slice p17 A_g.vals.length q18)])),
    Fact.pure [] (fun v => v = (.agg #[(Fl r562), (Fl r564), (Fl r651)])),
    Fact.pure [63] (fun v => ∃ cs_1 : List Value, v = (.agg cs_1.toArray) ∧ RV3 w (V3.mk (cf .f32 r562) (cf .f32 r564) (cf .f32 r651)) cs_1),
    Fact.pure [62, 64] (fun v => ∃ r_1 : Nat, v = (.tuple #[(Fl r_1), (Bo (vbtOk A_g (V3.mk (cf .f32 r562) (cf .f32 r564) (cf .f32 r651))))]) ∧ cf .f32 r_1 = vbtG A_g (V3.mk (cf .f32 r562) (cf .f32 r564) (cf .f32 r651))),
    Fact.pure [65] (fun v => ∃ r_1 : Nat, v = (.tuple #[(Fl r_1), (Bo (vbtOk A_g (V3.mk (cf .f32 r562) (cf .f32 r564) (cf .f32 r651))))]) ∧ cf .f32 r_1 = vbtG A_g (V3.mk (cf .f32 r562) (cf .f32 r564) (cf .f32 r651))),
    Fact.pure [61] (fun v => ∃ r_1 : Nat, v = (Fl r_1) ∧ cf .f32 r_1 = vbtG A_g (V3.mk (cf .f32 r562) (cf .f32 r564) (cf .f32 r651))),
    Fact.flt [61] (fun v => v = (Bo β8))]) mixed (by kernel_rfl) (by intro _ _ d _ _ h; cases d <;> exact h) ?_
  obtain ⟨w678, hw680⟩ : ∃ w', w' = World.drew w669 := ⟨_, rfl⟩; rw [← hw680]; have E679 : Ext w669 w678 := by rw [hw680]; exact Ext.draw _
  clear hw680
  have X681 := Ext.gr X674 E679
  refine RW_d _ rfl (fun v => by dsimp only [List.set]; try rfl) (fun u hu hF => ?_) (fun v682 => ?_)
  · clear hF
    refine doesG_un rfl ?_
    refine (does_loadAgg (cs := [(Fl r1), (Fl r3), (Fl r5), (Fl r7), (Iv A_g.x), (Iv A_g.y), (Iv A_g.z), (.slice p17 A_g.vals.length q18)]) (ev rfl) Try.isAgg33 Try.sizeOf33 (Blk.cells ((((((((((((((((((((((((((((((((((((((((((((((((((((((((((((((((((hB23.ext E31).ext E39).ext E56).ext E74).wr W81 (Nat.ne_of_lt n76)).ext E95).wr W103 (Nat.ne_of_lt n97)).wr W108 (Nat.ne_of_lt n97)).ext E114).kl E124 nin0).wr W162 (Nat.ne_of_lt n146)).wr W166 (Nat.ne_of_lt n155)).ext E172).ext E184).wr W191 (Nat.ne_of_lt n146)).ext E197).ext E209).wr W216 (Nat.ne_of_lt n155)).ext E222).ext E233).ext E242).ext E253).ext E269).ext E275).ext E280).ext E285).wr W288 (Nat.ne_of_lt n76)).ext E300).wr W311 (Nat.ne_of_lt n302)).wr W316 (Nat.ne_of_lt n302)).ext E322).kl E332 nin0).wr W376 (Nat.ne_of_lt n354)).wr W380 (Nat.ne_of_lt n366)).ext E386).ext E398).wr W405 (Nat.ne_of_lt n354)).ext E411).ext E423).wr W430 (Nat.ne_of_lt n366)).ext E436).ext E447).ext E456).ext E467).ext E483).ext E489).ext E494).ext E499).wr W502 (Nat.ne_of_lt n76)).ext E514).wr W528 (Nat.ne_of_lt n516)).wr W533 (Nat.ne_of_lt n516)).ext E539).kl E549 nin0).wr W599 (Nat.ne_of_lt n571)).wr W603 (Nat.ne_of_lt n586)).ext E609).ext E621).wr W628 (Nat.ne_of_lt n571)).ext E634).ext E646).wr W653 (Nat.ne_of_lt n586)).ext E659).ext E670).ext E679).ext hu)) rfl).mono ?_; rintro _ _ ⟨rfl, rfl⟩
    exact ⟨rfl, Ext.refl _⟩
  refine RW_d _ rfl (fun v => by dsimp only [List.set]; try rfl) (fun u hu hF => ?_) (fun v683 => ?_)
  · clear hF
    refine doesG_un rfl ?_
    refine (does_loadAgg (cs := [(Fl r562), (Fl r564), (Fl r651)]) (ev rfl) Try.isAgg54 Try.sizeOf54 (Blk.cells ((((hB654.ext E659).ext E670).ext E679).ext hu)) rfl).mono ?_; rintro _ _ ⟨rfl, rfl⟩
    exact ⟨rfl, Ext.refl _⟩
  refine RW_d _ rfl (fun v => by dsimp only [List.set]; try rfl) (fun u hu hF => ?_) (fun v684 => ?_)
  · have h63_ : v683 = (.agg #[(Fl r562), (Fl r564), (Fl r651)]) := hF.1
    clear hF
    refine doesG_un rfl ?_
    obtain rfl := h63_
    refine (does_call (args := #[(.agg #[(Fl r562), (Fl r564), (Fl r651)])]) cal27 (evs rfl) (c_impl_vectorOf r562 r564 r651 _)).mono ?_; rintro v u' ⟨hx, ⟨csn1, hv, k0⟩⟩
    exact ⟨⟨csn1, hv, k0⟩, hx⟩
  refine RW_d _ rfl (fun v => by dsimp only [List.set]; try rfl) (fun u hu hF => ?_) (fun v685 => ?_)
  · have h62_ : v682 = (.agg #[(Fl r1), (Fl r3), (Fl r5), (Fl r7), (Iv A_g.x), (Iv A_g.y), (Iv A_g.z), (.slice p17 A_g.vals.length q18)]) := hF.1
    have h64_ : ∃ cs_1 : List Value, v684 = (.agg cs_1.toArray) ∧ RV3 w (V3.mk (cf .f32 r562) (cf .f32 r564) (cf .f32 r651)) cs_1 := hF.2.1
    clear hF
    refine doesG_un rfl ?_
    obtain rfl := h62_
    obtain ⟨_, rfl, ⟨r64_1, r64_3, r64_5, rfl, h64_2, h64_4, h64_6⟩⟩ := h64_
    refine (does_call (args := #[(.agg #[(Fl r1), (Fl r3), (Fl r5), (Fl r7), (Iv A_g.x), (Iv A_g.y), (Iv A_g.z), (.slice p17 A_g.vals.length q18)]), (.agg #[(Fl r64_1), (Fl r64_3), (Fl r64_5)])]) cal9 (evs rfl) (c_impl_ValueBetween [(Fl r1), (Fl r3), (Fl r5), (Fl r7), (Iv A_g.x), (Iv A_g.y), (Iv A_g.z), (.slice p17 A_g.vals.length q18)] A_g [(Fl r64_1), (Fl r64_3), (Fl r64_5)] (V3.mk (cf .f32 r562) (cf .f32 r564) (cf .f32 r651)) _ ⟨r1, r3, r5, r7, (.slice p17 A_g.vals.length q18), rfl, h2, h4, h6, h8, (Sl.ext (Sl.ext hs19 RF.mono (Ext.gr X674 E679)) RF.mono hu)⟩ ⟨r64_1, r64_3, r64_5, rfl, (by assumption), (by assumption), (by assumption)⟩)).mono ?_; rintro v u' ⟨hx, ⟨rn1, hv, k0⟩⟩
    exact ⟨⟨rn1, hv.trans (by simp only [h64_2, h64_4, h64_6]), (by simp only [k0, h64_2, h64_4, h64_6])⟩, hx⟩
  refine RW_d _ rfl (fun v => by dsimp only [List.set]; try rfl) (fun u hu hF => ?_) (fun v686 => ?_)
  · have h65_ : ∃ r_1 : Nat, v685 = (.tuple #[(Fl r_1), (Bo (vbtOk A_g (V3.mk (cf .f32 r562) (cf .f32 r564) (cf .f32 r651))))]) ∧ cf .f32 r_1 = vbtG A_g (V3.mk (cf .f32 r562) (cf .f32 r564) (cf .f32 r651)) := hF.1
    clear hF
    refine doesG_un rfl ?_
    obtain ⟨r65_1, rfl, h65_2⟩ := h65_
    refine (does_move (u := (.tuple #[(Fl r65_1), (Bo (vbtOk A_g (V3.mk (cf .f32 r562) (cf .f32 r564) (cf .f32 r651))))])) (ev rfl)).mono ?_; rintro _ _ ⟨rfl, rfl⟩
    exact ⟨⟨r65_1, rfl, (by simp only [h65_2])⟩, Ext.refl _⟩
  refine RW_d _ rfl (fun v => by dsimp only [List.set]; try rfl) (fun u hu hF => ?_) (fun v687 => ?_)
  · have h61_ : ∃ r_1 : Nat, v686 = (.tuple #[(Fl r_1), (Bo (vbtOk A_g (V3.mk (cf .f32 r562) (cf .f32 r564) (cf .f32 r651))))]) ∧ cf .f32 r_1 = vbtG A_g (V3.mk (cf .f32 r562) (cf .f32 r564) (cf .f32 r651)) := hF.1
    clear hF
    refine doesG_un rfl ?_
    obtain ⟨r61_1, rfl, h61_2⟩ := h61_
    refine (does_extract (vs := #[(Fl r61_1), (Bo (vbtOk A_g (V3.mk (cf .f32 r562) (cf .f32 r564) (cf .f32 r651))))]) (u := (Fl r61_1)) (ev rfl) rfl).mono ?_; rintro _ _ ⟨rfl, rfl⟩
    exact ⟨⟨r61_1, rfl, (by simp only [h61_2])⟩, Ext.refl _⟩
  refine RW_d _ rfl (fun v => by dsimp only [List.set]; try rfl) (fun u hu hF => ?_) (fun v688 => ?_)
  · have h61_ : ∃ r_1 : Nat, v686 = (.tuple #[(Fl r_1), (Bo (vbtOk A_g (V3.mk (cf .f32 r562) (cf .f32 r564) (cf .f32 r651))))]) ∧ cf .f32 r_1 = vbtG A_g (V3.mk (cf .f32 r562) (cf .f32 r564) (cf .f32 r651)) := hF.1
    clear hF
    obtain ⟨r61_1, rfl, h61_2⟩ := h61_
    exact ⟨_, yields_is rfl (run_extract (ev rfl) rfl), (by first | rfl | (show _ = _; simp only [hβ8, h61_2]; done) | (show _ = _; simp only [hβ8, h61_2]; rfl))⟩
  refine RW_fin ?_; intro w689 E690 hP691
  obtain ⟨⟨⟨⟨⟨⟨⟨-, -⟩, -⟩, -⟩, -⟩, -⟩, q692⟩, q693⟩ := hP691
  have X694 := Ext.gr X681 E690
  have q692 : ∃ r_1 : Nat, v687 = (Fl r_1) ∧ cf .f32 r_1 = vbtG A_g (V3.mk (cf .f32 r562) (cf .f32 r564) (cf .f32 r651)) := q692
  obtain ⟨r695, rfl, h696⟩ := q692
  have q693 : v688 = (Bo β8) := q693
  obtain rfl := q693
  show wpList _ _ _ _ (fr [_, _, _, _, _, _, _, _, _, _, _, _, _, _, _, _, _, _, _, _, _, _, _, _, _, _, _, _, _, _, _, _, _, _, _, _, _, _, _, _, _, _, _, _, _, _, _, _, _, _, _, _, _, _, _, _, _, _, _, _, _, _, _, _, _, _, _, _, _, _, _, _, _, _, _, _, _, _, _, _, _, _, _, _, _, _, _, _, _, _]) _
  refine q_is rfl rfl (does_assign (u := (Fl r695)) (ev rfl)) (by dsimp only [List.set]; try rfl) ?_
  refine q_is rfl rfl (does_assign (u := (Bo β8)) (ev rfl)) (by dsimp only [List.set]; try rfl) ?_
  refine wpList_nil (hK677 _ _ ?_)
  refine wp_seq_k fun K697 hK697 => ?_
  refine region_text (
    [Fact.pure [] (fun v => v = (Bo (β6 && β5))),
    Fact.pure [68] (fun v => v = (Bo (β6 && β5))),
    Fact.pure [69] (fun v => (β6 && β5) = true → v = (Bo β7)),
    Fact.pure [69, 70] (fun v => v = (Bo ((β6 && β5) && β7))),
    Fact.pure [71] (fun v => v = (Bo ((β6 && β5) && β7))),
    Fact.pure [72] (fun v => ((β6 && β5) && β7) = true → v = (Bo β8)),
    Fact.pure [72, 73] (fun v => v = (Bo (((β6 && β5) && β7) && β8)))]) (by simp [Fact.pure, Fact.mem]) ?_
  refine RW_d _ rfl (fun v => by dsimp only [List.set]; try rfl) (fun u hu hF => ?_) (fun v698 => ?_)
  · clear hF
    refine doesG_un rfl ?_
    refine (does_move (u := (Bo (β6 && β5))) (ev rfl)).mono ?_; rintro _ _ ⟨rfl, rfl⟩
    exact ⟨rfl, Ext.refl _⟩
  refine RW_d _ rfl (fun v => by dsimp only [List.set]; try rfl) (fun u hu hF => ?_) (fun v699 => ?_)
  · have h68_ : v698 = (Bo (β6 && β5)) := hF.1
    clear hF
    refine doesG_un rfl ?_
    obtain rfl := h68_
    refine (does_move (u := (Bo (β6 && β5))) (ev rfl)).mono ?_; rintro _ _ ⟨rfl, rfl⟩
    exact ⟨rfl, Ext.refl _⟩
  refine RW_d _ rfl (fun v => by dsimp only [List.set]; try rfl) (fun u hu hF => ?_) (fun v700 => ?_)
  · have h69_ : v699 = (Bo (β6 && β5)) := hF.1
    clear hF
    obtain rfl := h69_
    refine doesG_g (b := (β6 && β5)) rfl (yld rfl rfl) (fun hg1 => ?_) (fun hc => ⟨fun hg1 => absurd hg1 hc, Ext.refl _⟩)
    refine (does_move (u := (Bo β7)) (ev rfl)).mono ?_; rintro _ _ ⟨rfl, rfl⟩
    exact ⟨fun _ => rfl, Ext.refl _⟩
  refine RW_d _ rfl (fun v => by dsimp only [List.set]; try rfl) (fun u hu hF => ?_) (fun v701 => ?_)
  · have h69_ : v699 = (Bo (β6 && β5)) := hF.1
    have h70_ : (β6 && β5) = true → v700 = (Bo β7) := hF.2.1
    clear hF
    refine doesG_un rfl ?_
    skip
    obtain rfl := h69_
    refine (does_pick (b := (β6 && β5)) (ev rfl) (ev rfl) (ev rfl)).mono ?_; rintro _ _ ⟨rfl, rfl⟩; refine ⟨?_, Ext.refl _⟩; skip
    cases hbb : (β6 && β5)
    all_goals first | rfl | (have e_ := h70_ hbb; subst e_; rfl) | (simp [hbb] at h70_ ⊢; first | done | rfl | (subst h70_; rfl) | simp_all) | (simp [hbb] at h70_ ⊢; done)
  refine RW_d _ rfl (fun v => by dsimp only [List.set]; try rfl) (fun u hu hF => ?_) (fun v702 => ?_)
  · have h71_ : v701 = (Bo ((β6 && β5) && β7)) := hF.1
    clear hF
    refine doesG_un rfl ?_
    obtain rfl := h71_
    refine (does_move (u := (Bo ((β6 && β5) && β7))) (ev rfl)).mono ?_; rintro _ _ ⟨rfl, rfl⟩
    exact ⟨rfl, Ext.refl _⟩
  refine RW_d _ rfl (fun v => by dsimp only [List.set]; try rfl) (fun u hu hF => ?_) (fun v703 => ?_)
  · have h72_ : v702 = (Bo ((β6 && β5) && β7)) := hF.1
    clear hF
    obtain rfl := h72_
    refine doesG_g (b := ((β6 && β5) && β7)) rfl (yld rfl rfl) (fun hg1 => ?_) (fun hc => ⟨fun hg1 => absurd hg1 hc, Ext.refl _⟩)
    refine (does_move (u := (Bo β8)) (ev rfl)).mono ?_; rintro _ _ ⟨rfl, rfl⟩
    exact ⟨fun _ => rfl, Ext.refl _⟩
  refine RW_d _ rfl (fun v => by dsimp only [List.set]; try rfl) (fun u hu hF => ?_) (fun v704 => ?_)
  · have h72_ : v702 = (Bo ((β6 && β5) && β7)) := hF.1
    have h73_ : ((β6 && β5) && β7) = true → v703 = (Bo β8) := hF.2.1
    clear hF
    refine doesG_un rfl ?_
    skip
    obtain rfl := h72_
    refine (does_pick (b := ((β6 && β5) && β7)) (ev rfl) (ev rfl) (ev rfl)).mono ?_; rintro _ _ ⟨rfl, rfl⟩; refine ⟨?_, Ext.refl _⟩; skip
    cases hbb : ((β6 && β5) && β7)
    all_goals first | rfl | (have e_ := h73_ hbb; subst e_; rfl) | (simp [hbb] at h73_ ⊢; first | done | rfl | (subst h73_; rfl) | simp_all) | (simp [hbb] at h73_ ⊢; done)
  refine RW_fin ?_; intro w705 E706 hP707
  obtain ⟨⟨⟨⟨⟨⟨⟨-, -⟩, -⟩, -⟩, -⟩, -⟩, -⟩, q708⟩ := hP707
  have X709 := Ext.gr X694 E706
  have q708 : v704 = (Bo (((β6 && β5) && β7) && β8)) := q708
  obtain rfl := q708
  show wpList _ _ _ _ (fr [_, _, _, _, _, _, _, _, _, _, _, _, _, _, _, _, _, _, _, _, _, _, _, _, _, _, _, _, _, _, _, _, _, _, _, _, _, _, _, _, _, _, _, _, _, _, _, _, _, _, _, _, _, _, _, _, _, _, _, _, _, _, _, _, _, _, _, _, _, _, _, _, _, _, _, _, _, _, _, _, _, _, _, _, _, _, _, _, _, _]) _
  refine q_is rfl rfl (does_assign (u := (Bo (((β6 && β5) && β7) && β8))) (ev rfl)) (by dsimp only [List.set]; try rfl) ?_
  refine wpList_nil (hK697 _ _ ?_)
  refine wp_region_lit ?_
  refine q_is rfl rfl (does_move (u := (Iv 2)) (ev rfl)) (by dsimp only [List.set]; try rfl) ?_
  refine q_is rfl rfl (does_move (u := (Fl r675)) (ev rfl)) (by dsimp only [List.set]; try rfl) ?_
  refine q_is rfl rfl (does_move (u := (Fl r695)) (ev rfl)) (by dsimp only [List.set]; try rfl) ?_
  refine seqd rfl rfl (does_float (.inr (.inl rfl)) (ev rfl) (ev rfl)) ?_; rintro _ w713 ⟨r710, rfl, h711, E712⟩
  have X714 := Ext.gr X709 E712
  show wpList _ _ _ _ (fr [_, _, _, _, _, _, _, _, _, _, _, _, _, _, _, _, _, _, _, _, _, _, _, _, _, _, _, _, _, _, _, _, _, _, _, _, _, _, _, _, _, _, _, _, _, _, _, _, _, _, _, _, _, _, _, _, _, _, _, _, _, _, _, _, _, _, _, _, _, _, _, _, _, _, _, _, _, _, _, _, _, _, _, _, _, _, _, _, _, _]) _
  refine q_is rfl rfl (does_fieldAddr (ev rfl) fa33_1) (by dsimp only [List.set]; try rfl) ?_
  refine q_is rfl rfl (does_load (u := (Fl r7)) (ev rfl) Try.isAgg22 (Cells.at (Blk.cells ((((((((((((((((((((((((((((((((((((((((((((((((((((((((((((((((((((hB23.ext E31).ext E39).ext E56).ext E74).wr W81 (Nat.ne_of_lt n76)).ext E95).wr W103 (Nat.ne_of_lt n97)).wr W108 (Nat.ne_of_lt n97)).ext E114).kl E124 nin0).wr W162 (Nat.ne_of_lt n146)).wr W166 (Nat.ne_of_lt n155)).ext E172).ext E184).wr W191 (Nat.ne_of_lt n146)).ext E197).ext E209).wr W216 (Nat.ne_of_lt n155)).ext E222).ext E233).ext E242).ext E253).ext E269).ext E275).ext E280).ext E285).wr W288 (Nat.ne_of_lt n76)).ext E300).wr W311 (Nat.ne_of_lt n302)).wr W316 (Nat.ne_of_lt n302)).ext E322).kl E332 nin0).wr W376 (Nat.ne_of_lt n354)).wr W380 (Nat.ne_of_lt n366)).ext E386).ext E398).wr W405 (Nat.ne_of_lt n354)).ext E411).ext E423).wr W430 (Nat.ne_of_lt n366)).ext E436).ext E447).ext E456).ext E467).ext E483).ext E489).ext E494).ext E499).wr W502 (Nat.ne_of_lt n76)).ext E514).wr W528 (Nat.ne_of_lt n516)).wr W533 (Nat.ne_of_lt n516)).ext E539).kl E549 nin0).wr W599 (Nat.ne_of_lt n571)).wr W603 (Nat.ne_of_lt n586)).ext E609).ext E621).wr W628 (Nat.ne_of_lt n571)).ext E634).ext E646).wr W653 (Nat.ne_of_lt n586)).ext E659).ext E670).ext E679).ext E690).ext E706).ext E712)) 3 rfl)) (by dsimp only [List.set]; try rfl) ?_
  refine seqd rfl rfl (does_float (.inr (.inr (.inl rfl))) (ev rfl) (ev rfl)) ?_; rintro _ w718 ⟨r715, rfl, h716, E717⟩
  have X719 := Ext.gr X714 E717
  show wpList _ _ _ _ (fr [_, _, _, _, _, _, _, _, _, _, _, _, _, _, _, _, _, _, _, _, _, _, _, _, _, _, _, _, _, _, _, _, _, _, _, _, _, _, _, _, _, _, _, _, _, _, _, _, _, _, _, _, _, _, _, _, _, _, _, _, _, _, _, _, _, _, _, _, _, _, _, _, _, _, _, _, _, _, _, _, _, _, _, _, _, _, _, _, _, _]) _
  refine seqd rfl rfl (does_float (.inr (.inr (.inr rfl))) (ev rfl) (ev rfl)) ?_; rintro _ w723 ⟨r720, rfl, h721, E722⟩
  have X724 := Ext.gr X719 E722
  show wpList _ _ _ _ (fr [_, _, _, _, _, _, _, _, _, _, _, _, _, _, _, _, _, _, _, _, _, _, _, _, _, _, _, _, _, _, _, _, _, _, _, _, _, _, _, _, _, _, _, _, _, _, _, _, _, _, _, _, _, _, _, _, _, _, _, _, _, _, _, _, _, _, _, _, _, _, _, _, _, _, _, _, _, _, _, _, _, _, _, _, _, _, _, _, _, _]) _
  refine q_is rfl rfl (does_indexAt_run (r := (Pt b71 2)) (ev rfl) (ev rfl) (fun w => ia54_2 _ _ w)) (by dsimp only [List.set]; try rfl) ?_
  refine seqn rfl rfl (does_store (n := 1) (cs := [(Fl r283), (Fl r497), (Fl 0)]) (u := (Fl r720)) (ev rfl) (ev rfl) Try.sizeOf22 rfl (((((((((((((((((((((hB503.ext E514).wr W528 (Nat.ne_of_lt n525)).wr W533 (Nat.ne_of_lt n525)).ext E539).kl E549 nin0).wr W599 (Nat.ne_of_lt n580)).wr W603 (Nat.ne_of_lt n595)).ext E609).ext E621).wr W628 (Nat.ne_of_lt n580)).ext E634).ext E646).wr W653 (Nat.ne_of_lt n595)).ext E659).ext E670).ext E679).ext E690).ext E706).ext E712).ext E717).ext E722) (Nat.le_of_ble_eq_true rfl) rfl) ?_; rintro _ w727 ⟨rfl, W725, hB726⟩
  change Blk _ _ [(Fl r283), (Fl r497), (Fl r720)] at hB726
  have X728 := Below.wr X724 W725 g79
  refine wpList_nil (hK508 _ _ ?_)
  refine wp_region_lit ?_
  refine q_is rfl rfl (does_iarith (p := 2) (q := 1) (r := (3)) (ev rfl) (ev rfl) (.inl ⟨rfl, rfl⟩)) (by dsimp only [List.set]; try rfl) ?_
  refine q_is rfl rfl (does_move (u := (Iv 3)) (ev rfl)) (by dsimp only [List.set]; try rfl) ?_
  refine wpList_nil ?_
  refine un_step ?_
  refine wp_seq_k fun K729 hK729 => ?_
  refine wp_region_lit ?_
  refine q_is rfl rfl (does_icmp (p := 3) (q := 3) (.inr (.inr (.inl rfl))) (ev rfl) (ev rfl)) (by dsimp only [List.set]; try rfl) ?_
  refine wpList_nil (hK729 _ _ ?_)
  refine wp_seq_k fun K730 hK730 => ?_
  refine wp_cond_false (ev rfl) ?_
  refine wp_exit ?_
  refine hK85 _ _ ?_
  refine wp_seq_k fun K731 hK731 => ?_
  refine wp_seq_k fun K732 hK732 => ?_
  refine wp_region_lit ?_
  refine q_is rfl rfl (does_move (u := (Bo (((β6 && β5) && β7) && β8))) (ev rfl)) (by dsimp only [List.set]; try rfl) ?_
  refine q_is rfl rfl (does_not (ev rfl)) (by dsimp only [List.set]; try rfl) ?_
  refine wpList_nil (hK732 _ _ ?_)
  refine wp_cond_split (t := !(((β6 && β5) && β7) && β8)) (ev rfl) (fun c733 => ?_) (fun c733 => ?_)
  · rw [Bool.not_eq_true'] at c733
    have c733' := c733
    (try simp only [hβ1, hβ2, hβ3, hβ4, hβ5, hβ6, hβ7, hβ8] at c733')
    (try simp only [icmp, Bool.and_eq_true, Bool.or_eq_true, Bool.and_eq_false_iff, Bool.or_eq_false_iff, Bool.not_eq_true', Bool.not_eq_false', decide_eq_true_eq, decide_eq_false_iff_not, beq_iff_eq, bne_iff_ne, beq_eq_false_iff_ne, bne_eq_false_iff_eq] at c733')
    simp only [h2, h4, h6, h8, h12, h14, h16, hβ1, h132, h134, h136, h138, h140, h142, h190, h215, hβ2, h239, hβ3, h259, h274, h279, h284, h340, h342, h344, h346, h348, h350, h404, h429, hβ4, h453, hβ5, h473, hβ6, h488, h493, h498, h557, h559, h561, h563, h565, h567, h627, h652, hβ7, h676, hβ8, h696, h711, h716, h721, Bool.true_and] at c733
    have hfi : fineI A_g A_p = false := c733
    have hsf : slpOk A_g A_p = false := (fineI_eq hgg).symm.trans hfi
    refine wp_seq_k fun K734 hK734 => ?_
    refine wp_region_lit ?_
    refine q_is rfl rfl (does_build (parts' := []) (cells := #[(Fl 0), (Fl 0), (Fl 0)]) (evp rfl) (by kernel_rfl)) (by dsimp only [List.set]; try rfl) ?_
    refine seqn rfl rfl (does_store (n := 3) (cs := [(Fl 0), (Fl 0), (Fl 0)]) (u := (.agg #[(Fl 0), (Fl 0), (Fl 0)])) (ev rfl) (ev rfl) Try.sizeOf31 rfl (((((((((((((((((((((((((((((((((((((((((((((((((((((((((((((((((((((hB38.ext E56).ext E74).wr W81 (Nat.ne_of_lt n78)).ext E95).wr W103 (Nat.ne_of_lt n99)).wr W108 (Nat.ne_of_lt n99)).ext E114).kl E124 nin0).wr W162 (Nat.ne_of_lt n148)).wr W166 (Nat.ne_of_lt n157)).ext E172).ext E184).wr W191 (Nat.ne_of_lt n148)).ext E197).ext E209).wr W216 (Nat.ne_of_lt n157)).ext E222).ext E233).ext E242).ext E253).ext E269).ext E275).ext E280).ext E285).wr W288 (Nat.ne_of_lt n78)).ext E300).wr W311 (Nat.ne_of_lt n304)).wr W316 (Nat.ne_of_lt n304)).ext E322).kl E332 nin0).wr W376 (Nat.ne_of_lt n356)).wr W380 (Nat.ne_of_lt n368)).ext E386).ext E398).wr W405 (Nat.ne_of_lt n356)).ext E411).ext E423).wr W430 (Nat.ne_of_lt n368)).ext E436).ext E447).ext E456).ext E467).ext E483).ext E489).ext E494).ext E499).wr W502 (Nat.ne_of_lt n78)).ext E514).wr W528 (Nat.ne_of_lt n518)).wr W533 (Nat.ne_of_lt n518)).ext E539).kl E549 nin0).wr W599 (Nat.ne_of_lt n573)).wr W603 (Nat.ne_of_lt n588)).ext E609).ext E621).wr W628 (Nat.ne_of_lt n573)).ext E634).ext E646).wr W653 (Nat.ne_of_lt n588)).ext E659).ext E670).ext E679).ext E690).ext E706).ext E712).ext E717).ext E722).wr W725 (Nat.ne_of_lt n78)) (Nat.le_of_ble_eq_true rfl) rfl) ?_; rintro _ w737 ⟨rfl, W735, hB736⟩
    change Blk _ _ [(Fl 0), (Fl 0), (Fl 0)] at hB736
    have X738 := Below.wr X728 W735 g43
    refine q_is rfl rfl (does_assign (u := (Bo false)) (ev rfl)) (by dsimp only [List.set]; try rfl) ?_
    refine wpList_nil (hK734 _ _ ?_)
    refine wp_ret ?_
    dsimp only [Exit.then, Exit.inBlock]
    refine ret_val (v := (.tuple #[(.agg #[(Fl 0), (Fl 0), (Fl 0)]), (Bo false)])) (res_CT rfl (slot rfl) (run_loadAgg (cs := [(Fl 0), (Fl 0), (Fl 0)]) Try.isAgg31 Try.sizeOf31 (Blk.cells hB736) rfl) (slot rfl)) X738 ?_
    try simp only [h2, h4, h6, h8, h12, h14, h16, hβ1, h132, h134, h136, h138, h140, h142, h190, h215, hβ2, h239, hβ3, h259, h274, h279, h284, h340, h342, h344, h346, h348, h350, h404, h429, hβ4, h453, hβ5, h473, hβ6, h488, h493, h498, h557, h559, h561, h563, h565, h567, h627, h652, hβ7, h676, hβ8, h696, h711, h716, h721] at c60 c733
    have x739 : (slpOk A_g A_p) = false := by first | exact hsf | (rw [slpV_f hsf] <;> rfl) | exact (fineI_eq hgg).symm.trans hfi | (rw [slpV_i hgg hfi]; simp only [h2, h4, h6, h8, h12, h14, h16, hβ1, h132, h134, h136, h138, h140, h142, h190, h215, hβ2, h239, hβ3, h259, h274, h279, h284, h340, h342, h344, h346, h348, h350, h404, h429, hβ4, h453, hβ5, h473, hβ6, h488, h493, h498, h557, h559, h561, h563, h565, h567, h627, h652, hβ7, h676, hβ8, h696, h711, h716, h721, c60, c733]; rfl)
    have x740 : cf .f32 0 = (slpV A_g A_p).x := by first | exact hsf | (rw [slpV_f hsf] <;> rfl) | exact (fineI_eq hgg).symm.trans hfi | (rw [slpV_i hgg hfi]; simp only [h2, h4, h6, h8, h12, h14, h16, hβ1, h132, h134, h136, h138, h140, h142, h190, h215, hβ2, h239, hβ3, h259, h274, h279, h284, h340, h342, h344, h346, h348, h350, h404, h429, hβ4, h453, hβ5, h473, hβ6, h488, h493, h498, h557, h559, h561, h563, h565, h567, h627, h652, hβ7, h676, hβ8, h696, h711, h716, h721, c60, c733]; rfl)
    have x741 : cf .f32 0 = (slpV A_g A_p).y := by first | exact hsf | (rw [slpV_f hsf] <;> rfl) | exact (fineI_eq hgg).symm.trans hfi | (rw [slpV_i hgg hfi]; simp only [h2, h4, h6, h8, h12, h14, h16, hβ1, h132, h134, h136, h138, h140, h142, h190, h215, hβ2, h239, hβ3, h259, h274, h279, h284, h340, h342, h344, h346, h348, h350, h404, h429, hβ4, h453, hβ5, h473, hβ6, h488, h493, h498, h557, h559, h561, h563, h565, h567, h627, h652, hβ7, h676, hβ8, h696, h711, h716, h721, c60, c733]; rfl)
    have x742 : cf .f32 0 = (slpV A_g A_p).z := by first | exact hsf | (rw [slpV_f hsf] <;> rfl) | exact (fineI_eq hgg).symm.trans hfi | (rw [slpV_i hgg hfi]; simp only [h2, h4, h6, h8, h12, h14, h16, hβ1, h132, h134, h136, h138, h140, h142, h190, h215, hβ2, h239, hβ3, h259, h274, h279, h284, h340, h342, h344, h346, h348, h350, h404, h429, hβ4, h453, hβ5, h473, hβ6, h488, h493, h498, h557, h559, h561, h563, h565, h567, h627, h652, hβ7, h676, hβ8, h696, h711, h716, h721, c60, c733]; rfl)
    exact ⟨[(Fl 0), (Fl 0), (Fl 0)], (by first | rfl | rw [x739]), ⟨0, 0, 0, rfl, x740, x741, x742⟩⟩
  rw [Bool.not_eq_false'] at c733
  have c733' := c733
  (try simp only [hβ1, hβ2, hβ3, hβ4, hβ5, hβ6, hβ7, hβ8] at c733')
  (try simp only [icmp, Bool.and_eq_true, Bool.or_eq_true, Bool.and_eq_false_iff, Bool.or_eq_false_iff, Bool.not_eq_true', Bool.not_eq_false', decide_eq_true_eq, decide_eq_false_iff_not, beq_iff_eq, bne_iff_ne, beq_eq_false_iff_ne, bne_eq_false_iff_eq] at c733')
  simp only [h2, h4, h6, h8, h12, h14, h16, hβ1, h132, h134, h136, h138, h140, h142, h190, h215, hβ2, h239, hβ3, h259, h274, h279, h284, h340, h342, h344, h346, h348, h350, h404, h429, hβ4, h453, hβ5, h473, hβ6, h488, h493, h498, h557, h559, h561, h563, h565, h567, h627, h652, hβ7, h676, hβ8, h696, h711, h716, h721, Bool.true_and] at c733
  have hfi : fineI A_g A_p = true := c733
  refine wp_skip (hK731 _ _ ?_)
  refine wp_seq_k fun K743 hK743 => ?_
  refine wp_region_lit ?_
  refine q_is rfl rfl (does_loadAgg (cs := [(Fl r283), (Fl r497), (Fl r720)]) (ev rfl) Try.isAgg54 Try.sizeOf54 (Blk.cells hB726) rfl) (by dsimp only [List.set]; try rfl) ?_
  refine seqd rfl rfl (does_call (args := #[(.agg #[(Fl r283), (Fl r497), (Fl r720)])]) cal27 (evs rfl) (c_impl_vectorOf r283 r497 r720 _)) ?_; rintro _ w745 ⟨E744, ⟨_, rfl, ⟨r746, r748, r750, rfl, h747, h749, h751⟩⟩⟩
  have X752 := Ext.gr X728 E744
  show wpList _ _ _ _ (fr [_, _, _, _, _, _, _, _, _, _, _, _, _, _, _, _, _, _, _, _, _, _, _, _, _, _, _, _, _, _, _, _, _, _, _, _, _, _, _, _, _, _, _, _, _, _, _, _, _, _, _, _, _, _, _, _, _, _, _, _, _, _, _, _, _, _, _, _, _, _, _, _, _, _, _, _, _, _, _, _, _, _, _, _, _, _, _, _, _, _]) _
  refine seqn rfl rfl (does_store (n := 3) (cs := [(Fl 0), (Fl 0), (Fl 0)]) (u := (.agg #[(Fl r746), (Fl r748), (Fl r750)])) (ev rfl) (ev rfl) Try.sizeOf31 rfl ((((((((((((((((((((((((((((((((((((((((((((((((((((((((((((((((((((((hB38.ext E56).ext E74).wr W81 (Nat.ne_of_lt n78)).ext E95).wr W103 (Nat.ne_of_lt n99)).wr W108 (Nat.ne_of_lt n99)).ext E114).kl E124 nin0).wr W162 (Nat.ne_of_lt n148)).wr W166 (Nat.ne_of_lt n157)).ext E172).ext E184).wr W191 (Nat.ne_of_lt n148)).ext E197).ext E209).wr W216 (Nat.ne_of_lt n157)).ext E222).ext E233).ext E242).ext E253).ext E269).ext E275).ext E280).ext E285).wr W288 (Nat.ne_of_lt n78)).ext E300).wr W311 (Nat.ne_of_lt n304)).wr W316 (Nat.ne_of_lt n304)).ext E322).kl E332 nin0).wr W376 (Nat.ne_of_lt n356)).wr W380 (Nat.ne_of_lt n368)).ext E386).ext E398).wr W405 (Nat.ne_of_lt n356)).ext E411).ext E423).wr W430 (Nat.ne_of_lt n368)).ext E436).ext E447).ext E456).ext E467).ext E483).ext E489).ext E494).ext E499).wr W502 (Nat.ne_of_lt n78)).ext E514).wr W528 (Nat.ne_of_lt n518)).wr W533 (Nat.ne_of_lt n518)).ext E539).kl E549 nin0).wr W599 (Nat.ne_of_lt n573)).wr W603 (Nat.ne_of_lt n588)).ext E609).ext E621).wr W628 (Nat.ne_of_lt n573)).ext E634).ext E646).wr W653 (Nat.ne_of_lt n588)).ext E659).ext E670).ext E679).ext E690).ext E706).ext E712).ext E717).ext E722).wr W725 (Nat.ne_of_lt n78)).ext E744) (Nat.le_of_ble_eq_true rfl) rfl) ?_; rintro _ w755 ⟨rfl, W753, hB754⟩
  change Blk _ _ [(Fl r746), (Fl r748), (Fl r750)] at hB754
  have X756 := Below.wr X752 W753 g43
  refine q_is rfl rfl (does_assign (u := (Bo true)) (ev rfl)) (by dsimp only [List.set]; try rfl) ?_
  refine wpList_nil (hK743 _ _ ?_)
  refine wp_ret ?_
  refine ret_val (v := (.tuple #[(.agg #[(Fl r746), (Fl r748), (Fl r750)]), (Bo true)])) (res_CT rfl (slot rfl) (run_loadAgg (cs := [(Fl r746), (Fl r748), (Fl r750)]) Try.isAgg31 Try.sizeOf31 (Blk.cells hB754) rfl) (slot rfl)) X756 ?_
  try simp only [h2, h4, h6, h8, h12, h14, h16, hβ1, h132, h134, h136, h138, h140, h142, h190, h215, hβ2, h239, hβ3, h259, h274, h279, h284, h340, h342, h344, h346, h348, h350, h404, h429, hβ4, h453, hβ5, h473, hβ6, h488, h493, h498, h557, h559, h561, h563, h565, h567, h627, h652, hβ7, h676, hβ8, h696, h711, h716, h721, h747, h749, h751] at c60 c733
  have x757 : (slpOk A_g A_p) = true := by first | exact hsf | (rw [slpV_f hsf] <;> rfl) | exact (fineI_eq hgg).symm.trans hfi | (rw [slpV_i hgg hfi]; simp only [h2, h4, h6, h8, h12, h14, h16, hβ1, h132, h134, h136, h138, h140, h142, h190, h215, hβ2, h239, hβ3, h259, h274, h279, h284, h340, h342, h344, h346, h348, h350, h404, h429, hβ4, h453, hβ5, h473, hβ6, h488, h493, h498, h557, h559, h561, h563, h565, h567, h627, h652, hβ7, h676, hβ8, h696, h711, h716, h721, h747, h749, h751, c60, c733]; rfl)
  have x758 : cf .f32 r746 = (slpV A_g A_p).x := by first | exact hsf | (rw [slpV_f hsf] <;> rfl) | exact (fineI_eq hgg).symm.trans hfi | (rw [slpV_i hgg hfi]; simp only [h2, h4, h6, h8, h12, h14, h16, hβ1, h132, h134, h136, h138, h140, h142, h190, h215, hβ2, h239, hβ3, h259, h274, h279, h284, h340, h342, h344, h346, h348, h350, h404, h429, hβ4, h453, hβ5, h473, hβ6, h488, h493, h498, h557, h559, h561, h563, h565, h567, h627, h652, hβ7, h676, hβ8, h696, h711, h716, h721, h747, h749, h751, c60, c733]; rfl)
  have x759 : cf .f32 r748 = (slpV A_g A_p).y := by first | exact hsf | (rw [slpV_f hsf] <;> rfl) | exact (fineI_eq hgg).symm.trans hfi | (rw [slpV_i hgg hfi]; simp only [h2, h4, h6, h8, h12, h14, h16, hβ1, h132, h134, h136, h138, h140, h142, h190, h215, hβ2, h239, hβ3, h259, h274, h279, h284, h340, h342, h344, h346, h348, h350, h404, h429, hβ4, h453, hβ5, h473, hβ6, h488, h493, h498, h557, h559, h561, h563, h565, h567, h627, h652, hβ7, h676, hβ8, h696, h711, h716, h721, h747, h749, h751, c60, c733]; rfl)
  have x760 : cf .f32 r750 = (slpV A_g A_p).z := by first | exact hsf | (rw [slpV_f hsf] <;> rfl) | exact (fineI_eq hgg).symm.trans hfi | (rw [slpV_i hgg hfi]; simp only [h2, h4, h6, h8, h12, h14, h16, hβ1, h132, h134, h136, h138, h140, h142, h190, h215, hβ2, h239, hβ3, h259, h274, h279, h284, h340, h342, h344, h346, h348, h350, h404, h429, hβ4, h453, hβ5, h473, hβ6, h488, h493, h498, h557, h559, h561, h563, h565, h567, h627, h652, hβ7, h676, hβ8, h696, h711, h716, h721, h747, h749, h751, c60, c733]; rfl)
  exact ⟨[(Fl r746), (Fl r748), (Fl r750)], (by first | rfl | rw [x757]), ⟨r746, r748, r750, rfl, x758, x759, x760⟩⟩

/- laws.FnExactSlopeBetween -/
theorem c_laws_FnExactSlopeBetween (g : List Value) (A_g : GridT) (p : List Value) (A_p : V3) (w : World) (hv_g : RGridT w A_g g) (hv_p : RV3 w A_p p) : Gives Try.prog 4 #[(.agg g.toArray), (.agg p.toArray)] w (fun v w' => v = (Bo true)) := by
  obtain ⟨r1, r3, r5, r7, y9, rfl, h2, h4, h6, h8, h10⟩ := hv_g
  obtain ⟨r11, r13, r15, rfl, h12, h14, h16⟩ := hv_p
  have hs19 := h10; have hs19l := Sl.len h10; obtain ⟨p17, q18, rfl⟩ := Sl.shape h10
  refine enter [(.agg #[(Fl r1), (Fl r3), (Fl r5), (Fl r7), (Iv A_g.x), (Iv A_g.y), (Iv A_g.z), (.slice p17 A_g.vals.length q18)]), (.agg #[(Fl r11), (Fl r13), (Fl r15)]), Ud, Ud, Ud, Ud, Ud, Ud, Ud, Ud, Ud, Ud, Ud, Ud, Ud, Ud, Ud, Ud, Ud, Ud, Ud, Ud, Ud, Ud, Ud, Ud, Ud, Ud, Ud, Ud, Ud, Ud, Ud, Ud, Ud, Ud, Ud, Ud, Ud, Ud, Ud, Ud, Ud, Ud, Ud, Ud, Ud] Try.func4 rfl Try.ntmps4 rfl ?_
  refine wp_seq_k fun K20 hK20 => ?_
  refine wp_region_lit ?_
  refine seqd rfl rfl (does_box (u := (.agg #[(Fl r1), (Fl r3), (Fl r5), (Fl r7), (Iv A_g.x), (Iv A_g.y), (Iv A_g.z), (.slice p17 A_g.vals.length q18)])) (ev rfl)) ?_; rintro _ w25 ⟨b21, rfl, hb22, hB23, E24⟩
  have g26 : w.heap.size ≤ b21 := Nat.le_trans (Below.size (Ext.refl w)) hb22
  change Blk _ _ [(Fl r1), (Fl r3), (Fl r5), (Fl r7), (Iv A_g.x), (Iv A_g.y), (Iv A_g.z), (.slice p17 A_g.vals.length q18)] at hB23
  have X27 := Ext.gr (Ext.refl w) E24
  show wpList _ _ _ _ (fr [_, _, _, _, _, _, _, _, _, _, _, _, _, _, _, _, _, _, _, _, _, _, _, _, _, _, _, _, _, _, _, _, _, _, _, _, _, _, _, _, _, _, _, _, _, _, _]) _
  refine seqd rfl rfl (does_box (u := (.agg #[(Fl r11), (Fl r13), (Fl r15)])) (ev rfl)) ?_; rintro _ w32 ⟨b28, rfl, hb29, hB30, E31⟩
  have n33 : b21 < b28 := Nat.lt_of_lt_of_le (Blk.lt hB23) hb29
  have g34 : w.heap.size ≤ b28 := Nat.le_trans (Below.size X27) hb29
  change Blk _ _ [(Fl r11), (Fl r13), (Fl r15)] at hB30
  have X35 := Ext.gr X27 E31
  show wpList _ _ _ _ (fr [_, _, _, _, _, _, _, _, _, _, _, _, _, _, _, _, _, _, _, _, _, _, _, _, _, _, _, _, _, _, _, _, _, _, _, _, _, _, _, _, _, _, _, _, _, _, _]) _
  refine q_is rfl rfl (does_assign (u := (Bo false)) (ev rfl)) (by dsimp only [List.set]; try rfl) ?_
  refine wpList_nil (hK20 _ _ ?_)
  refine wp_seq_k fun K36 hK36 => ?_
  refine wp_region_lit ?_
  refine q_is rfl rfl (does_assign (u := (Iv 1048576)) (ev rfl)) (by dsimp only [List.set]; try rfl) ?_
  refine wpList_nil (hK36 _ _ ?_)
  refine wp_seq_k fun K37 hK37 => ?_
  refine wp_region_lit ?_
  refine q_is rfl rfl (does_loadAgg (cs := [(Fl r1), (Fl r3), (Fl r5), (Fl r7), (Iv A_g.x), (Iv A_g.y), (Iv A_g.z), (.slice p17 A_g.vals.length q18)]) (ev rfl) Try.isAgg27 Try.sizeOf27 (Blk.cells (hB23.ext E31)) rfl) (by dsimp only [List.set]; try rfl) ?_
  refine q_is rfl rfl (does_move (u := (Iv 1048576)) (ev rfl)) (by dsimp only [List.set]; try rfl) ?_
  refine seqd rfl rfl (does_call (args := #[(.agg #[(Fl r1), (Fl r3), (Fl r5), (Fl r7), (Iv A_g.x), (Iv A_g.y), (Iv A_g.z), (.slice p17 A_g.vals.length q18)]), (Iv 1048576)]) cal5 (evs rfl) (c_laws_szGrid [(Fl r1), (Fl r3), (Fl r5), (Fl r7), (Iv A_g.x), (Iv A_g.y), (Iv A_g.z), (.slice p17 A_g.vals.length q18)] A_g 1048576 _ ⟨r1, r3, r5, r7, (.slice p17 A_g.vals.length q18), rfl, h2, h4, h6, h8, (Sl.ext hs19 RF.mono X35)⟩ (by omega) (by omega))) ?_; rintro _ w39 ⟨E38, ⟨i40, rfl, h41⟩⟩
  have X42 := Ext.gr X35 E38
  show wpList _ _ _ _ (fr [_, _, _, _, _, _, _, _, _, _, _, _, _, _, _, _, _, _, _, _, _, _, _, _, _, _, _, _, _, _, _, _, _, _, _, _, _, _, _, _, _, _, _, _, _, _, _]) _
  refine q_is rfl rfl (does_assign (u := (Iv i40)) (ev rfl)) (by dsimp only [List.set]; try rfl) ?_
  refine wpList_nil (hK37 _ _ ?_)
  refine wp_seq_k fun K43 hK43 => ?_
  refine wp_seq_k fun K44 hK44 => ?_
  refine wp_region_lit ?_
  refine q_is rfl rfl (does_move (u := (Iv i40)) (ev rfl)) (by dsimp only [List.set]; try rfl) ?_
  refine q_is rfl rfl (does_icmp (p := i40) (q := 0) (.inr (.inr (.inl rfl))) (ev rfl) (ev rfl)) (by dsimp only [List.set]; try rfl) ?_
  refine wpList_nil (hK44 _ _ ?_)
  refine wp_cond_split (t := icmp .lss i40 0) (ev rfl) (fun c45 => ?_) (fun c45 => ?_)
  · have c45' := c45
    (try simp only [icmp, Bool.and_eq_true, Bool.or_eq_true, Bool.and_eq_false_iff, Bool.or_eq_false_iff, Bool.not_eq_true', Bool.not_eq_false', decide_eq_true_eq, decide_eq_false_iff_not, beq_iff_eq, bne_iff_ne, beq_eq_false_iff_ne, bne_eq_false_iff_eq] at c45')
    refine wp_seq_k fun K46 hK46 => ?_
    refine wp_region_lit ?_
    refine q_is rfl rfl (does_assign (u := (Bo true)) (ev rfl)) (by dsimp only [List.set]; try rfl) ?_
    refine wpList_nil (hK46 _ _ ?_)
    refine wp_ret ?_
    dsimp only [Exit.then, Exit.inBlock]
    refine ret_val (v := (Bo true)) (res_T rfl (slot rfl)) X42 ?_
    try simp only [h2, h4, h6, h8, h12, h14, h16] at c45
    exact rfl
  have c45' := c45
  (try simp only [icmp, Bool.and_eq_true, Bool.or_eq_true, Bool.and_eq_false_iff, Bool.or_eq_false_iff, Bool.not_eq_true', Bool.not_eq_false', decide_eq_true_eq, decide_eq_false_iff_not, beq_iff_eq, bne_iff_ne, beq_eq_false_iff_ne, bne_eq_false_iff_eq] at c45')
  refine wp_skip (hK43 _ _ ?_)
  refine wp_seq_k fun K47 hK47 => ?_
  refine region_draw (
    [Fact.pure [] (fun v => v = (.agg #[(Fl r1), (Fl r3), (Fl r5), (Fl r7), (Iv A_g.x), (Iv A_g.y), (Iv A_g.z), (.slice p17 A_g.vals.length q18)])),
    Fact.mem [17] (fun v w' => ∃ cs_1 : List Value, ∃ Lw_2 : List Nat, v = (.agg cs_1.toArray) ∧ Hang w39.heap.size w' (fun u => RGridT u A_g cs_1) ∧ WL 1 w39.heap.size w' Lw_2 (cellN cs_1 7) A_g.vals.length) (by rintro v w1 w2 hx ⟨z1, z2, rfl, k0, k1⟩; exact ⟨_, _, rfl, (k0.ext hx), (k1.same (Same.of_ext hx))⟩),
    Fact.pure [] (fun v => v = (.agg #[(Fl r11), (Fl r13), (Fl r15)])),
    Fact.pure [19] (fun v => ∃ cs_1 : List Value, v = (.agg cs_1.toArray) ∧ RV3 w A_p cs_1),
    Fact.pure [18, 20] (fun v => ∃ cs_1 : List Value, v = (.tuple #[(.agg cs_1.toArray), (Bo (slpOk A_g A_p))]) ∧ RV3 w (slpV A_g A_p) cs_1),
    Fact.pure [21] (fun v => ∃ cs_1 : List Value, v = (.tuple #[(.agg cs_1.toArray), (Bo (slpOk A_g A_p))]) ∧ RV3 w (slpV A_g A_p) cs_1),
    Fact.pure [16] (fun v => ∃ cs_1 : List Value, v = (.agg cs_1.toArray) ∧ RV3 w (slpV A_g A_p) cs_1),
    Fact.flt [16] (fun v => v = (Bo (slpOk A_g A_p))),
    Fact.mem [] (fun v w' => ∃ b : Nat, v = .pointer (some ⟨b, 0, none⟩) ∧ w39.heap.size ≤ b ∧ Blk w' b [(Fl 0), (Fl 0), (Fl 0)]) (by rintro v w1 w2 hx ⟨b, rfl, hb, hB⟩; exact ⟨b, rfl, hb, (hB.ext hx)⟩)]) mixed (by kernel_rfl) (by intro _ _ d _ _ h; cases d <;> exact h) ?_
  obtain ⟨w48, hw50⟩ : ∃ w', w' = World.drew w39 := ⟨_, rfl⟩; rw [← hw50]; have E49 : Ext w39 w48 := by rw [hw50]; exact Ext.draw _
  clear hw50
  have X51 := Ext.gr X42 E49
  refine RW_d _ rfl (fun v => by dsimp only [List.set]; try rfl) (fun u hu hF => ?_) (fun v52 => ?_)
  · clear hF
    refine doesG_un rfl ?_
    refine (does_loadAgg (cs := [(Fl r1), (Fl r3), (Fl r5), (Fl r7), (Iv A_g.x), (Iv A_g.y), (Iv A_g.z), (.slice p17 A_g.vals.length q18)]) (ev rfl) Try.isAgg27 Try.sizeOf27 (Blk.cells ((((hB23.ext E31).ext E38).ext E49).ext hu)) rfl).mono ?_; rintro _ _ ⟨rfl, rfl⟩
    exact ⟨rfl, Ext.refl _⟩
  refine RW_d _ rfl (fun v => by dsimp only [List.set]; try rfl) (fun u hu hF => ?_) (fun v53 => ?_)
  · have h17_ : v52 = (.agg #[(Fl r1), (Fl r3), (Fl r5), (Fl r7), (Iv A_g.x), (Iv A_g.y), (Iv A_g.z), (.slice p17 A_g.vals.length q18)]) := hF.1
    clear hF
    refine doesG_un rfl ?_
    obtain rfl := h17_
    refine (does_call (args := #[(.agg #[(Fl r1), (Fl r3), (Fl r5), (Fl r7), (Iv A_g.x), (Iv A_g.y), (Iv A_g.z), (.slice p17 A_g.vals.length q18)])]) cal7 (evs rfl) (c_laws_toGrid [(Fl r1), (Fl r3), (Fl r5), (Fl r7), (Iv A_g.x), (Iv A_g.y), (Iv A_g.z), (.slice p17 A_g.vals.length q18)] A_g _ ⟨r1, r3, r5, r7, (.slice p17 A_g.vals.length q18), rfl, h2, h4, h6, h8, (Sl.ext (Sl.ext hs19 RF.mono (Ext.gr X42 E49)) RF.mono hu)⟩ (by omega))).mono ?_; rintro v u' ⟨hx, ⟨csn1, Lwn2, hv, k0, k1⟩⟩
    exact ⟨⟨csn1, Lwn2, hv, (Hang.le k0 (Nat.le_trans (Below.size E49) (Below.size hu))), (WL.le k1 (Nat.le_trans (Below.size E49) (Below.size hu)))⟩, hx⟩
  refine RW_d _ rfl (fun v => by dsimp only [List.set]; try rfl) (fun u hu hF => ?_) (fun v54 => ?_)
  · clear hF
    refine doesG_un rfl ?_
    refine (does_loadAgg (cs := [(Fl r11), (Fl r13), (Fl r15)]) (ev rfl) Try.isAgg24 Try.sizeOf24 (Blk.cells (((hB30.ext E38).ext E49).ext hu)) rfl).mono ?_; rintro _ _ ⟨rfl, rfl⟩
    exact ⟨rfl, Ext.refl _⟩
  refine RW_d _ rfl (fun v => by dsimp only [List.set]; try rfl) (fun u hu hF => ?_) (fun v55 => ?_)
  · have h19_ : v54 = (.agg #[(Fl r11), (Fl r13), (Fl r15)]) := hF.1
    clear hF
    refine doesG_un rfl ?_
    obtain rfl := h19_
    refine (does_call (args := #[(.agg #[(Fl r11), (Fl r13), (Fl r15)])]) cal8 (evs rfl) (c_laws_toVector [(Fl r11), (Fl r13), (Fl r15)] A_p _ ⟨r11, r13, r15, rfl, h12, h14, h16⟩)).mono ?_; rintro v u' ⟨hx, ⟨csn1, hv, k0⟩⟩
    exact ⟨⟨csn1, hv, k0⟩, hx⟩
  refine RW_d _ rfl (fun v => by dsimp only [List.set]; try rfl) (fun u hu hF => ?_) (fun v56 => ?_)
  · have h18_ : ∃ cs_1 : List Value, ∃ Lw_2 : List Nat, v53 = (.agg cs_1.toArray) ∧ Hang w39.heap.size u (fun u => RGridT u A_g cs_1) ∧ WL 1 w39.heap.size u Lw_2 (cellN cs_1 7) A_g.vals.length := hF.1
    have h20_ : ∃ cs_1 : List Value, v55 = (.agg cs_1.toArray) ∧ RV3 w A_p cs_1 := hF.2.1
    clear hF
    refine doesG_un rfl ?_
    obtain ⟨cs18_2, Lw18_3, rfl, hh18_1, hw18_4⟩ := h18_
    obtain ⟨r18_5, r18_7, r18_9, r18_11, y18_13, rfl, h18_6, h18_8, h18_10, h18_12, h18_14⟩ := hh18_1.get
    have hh18_14 := h18_14; obtain ⟨p18_15, q18_16, rfl⟩ := Sl.shape h18_14
    obtain ⟨_, rfl, ⟨r20_1, r20_3, r20_5, rfl, h20_2, h20_4, h20_6⟩⟩ := h20_
    refine (does_call (args := #[(.agg #[(Fl r18_5), (Fl r18_7), (Fl r18_9), (Fl r18_11), (Iv A_g.x), (Iv A_g.y), (Iv A_g.z), (.slice p18_15 A_g.vals.length q18_16)]), (.agg #[(Fl r20_1), (Fl r20_3), (Fl r20_5)])]) cal12 (evs rfl) (c_spec_SlopeBetween [(Fl r18_5), (Fl r18_7), (Fl r18_9), (Fl r18_11), (Iv A_g.x), (Iv A_g.y), (Iv A_g.z), (.slice p18_15 A_g.vals.length q18_16)] A_g [(Fl r20_1), (Fl r20_3), (Fl r20_5)] A_p _ ⟨r18_5, r18_7, r18_9, r18_11, (.slice p18_15 A_g.vals.length q18_16), rfl, (by assumption), (by assumption), (by assumption), (by assumption), hh18_14⟩ ⟨r20_1, r20_3, r20_5, rfl, (by assumption), (by assumption), (by assumption)⟩)).mono ?_; rintro v u' ⟨hx, ⟨csn1, hv, k0⟩⟩
    exact ⟨⟨csn1, hv.trans (by simp only [h18_6, h18_8, h18_10, h18_12, h20_2, h20_4, h20_6]), (by first | exact k0 | simpa only [h18_6, h18_8, h18_10, h18_12, h20_2, h20_4, h20_6] using RV3.any (w := w) k0)⟩, hx⟩
  refine RW_d _ rfl (fun v => by dsimp only [List.set]; try rfl) (fun u hu hF => ?_) (fun v57 => ?_)
  · have h21_ : ∃ cs_1 : List Value, v56 = (.tuple #[(.agg cs_1.toArray), (Bo (slpOk A_g A_p))]) ∧ RV3 w (slpV A_g A_p) cs_1 := hF.1
    clear hF
    refine doesG_un rfl ?_
    obtain ⟨_, rfl, ⟨r21_1, r21_3, r21_5, rfl, h21_2, h21_4, h21_6⟩⟩ := h21_
    refine (does_move (u := (.tuple #[(.agg #[(Fl r21_1), (Fl r21_3), (Fl r21_5)]), (Bo (slpOk A_g A_p))])) (ev rfl)).mono ?_; rintro _ _ ⟨rfl, rfl⟩
    exact ⟨⟨[(Fl r21_1), (Fl r21_3), (Fl r21_5)], rfl, ⟨r21_1, r21_3, r21_5, rfl, (by first | assumption | rfl), (by first | assumption | rfl), (by first | assumption | rfl)⟩⟩, Ext.refl _⟩
  refine RW_d _ rfl (fun v => by dsimp only [List.set]; try rfl) (fun u hu hF => ?_) (fun v58 => ?_)
  · have h16_ : ∃ cs_1 : List Value, v57 = (.tuple #[(.agg cs_1.toArray), (Bo (slpOk A_g A_p))]) ∧ RV3 w (slpV A_g A_p) cs_1 := hF.1
    clear hF
    refine doesG_un rfl ?_
    obtain ⟨_, rfl, ⟨r16_1, r16_3, r16_5, rfl, h16_2, h16_4, h16_6⟩⟩ := h16_
    refine (does_extract (vs := #[(.agg #[(Fl r16_1), (Fl r16_3), (Fl r16_5)]), (Bo (slpOk A_g A_p))]) (u := (.agg #[(Fl r16_1), (Fl r16_3), (Fl r16_5)])) (ev rfl) rfl).mono ?_; rintro _ _ ⟨rfl, rfl⟩
    exact ⟨⟨[(Fl r16_1), (Fl r16_3), (Fl r16_5)], rfl, ⟨r16_1, r16_3, r16_5, rfl, (by first | assumption | rfl), (by first | assumption | rfl), (by first | assumption | rfl)⟩⟩, Ext.refl _⟩
  refine RW_d _ rfl (fun v => by dsimp only [List.set]; try rfl) (fun u hu hF => ?_) (fun v59 => ?_)
  · have h16_ : ∃ cs_1 : List Value, v57 = (.tuple #[(.agg cs_1.toArray), (Bo (slpOk A_g A_p))]) ∧ RV3 w (slpV A_g A_p) cs_1 := hF.1
    clear hF
    obtain ⟨_, rfl, ⟨r16_1, r16_3, r16_5, rfl, h16_2, h16_4, h16_6⟩⟩ := h16_
    exact ⟨_, yields_is rfl (run_extract (ev rfl) rfl), (by first | rfl | (show _ = _; simp only [h16_2, h16_4, h16_6]; done) | (show _ = _; simp only [h16_2, h16_4, h16_6]; rfl))⟩
  refine RW_d _ rfl (fun v => by dsimp only [List.set]; try rfl) (fun u hu hF => ?_) (fun v60 => ?_)
  · clear hF
    refine doesG_un rfl ?_
    refine (does_alloc z31).mono ?_; rintro _ _ ⟨b, rfl, hb, hB, hx⟩
    exact ⟨⟨b, rfl, Nat.le_trans (Nat.le_trans (Below.size E49) (Below.size hu)) hb, hB⟩, hx⟩
  refine RW_fin ?_; intro w61 E62 hP63
  obtain ⟨⟨⟨⟨⟨⟨⟨⟨⟨-, -⟩, -⟩, -⟩, -⟩, -⟩, -⟩, q64⟩, q65⟩, q66⟩ := hP63
  have X67 := Ext.gr X51 E62
  have q64 : ∃ cs_1 : List Value, v58 = (.agg cs_1.toArray) ∧ RV3 w (slpV A_g A_p) cs_1 := q64
  obtain ⟨_, rfl, ⟨r68, r70, r72, rfl, h69, h71, h73⟩⟩ := q64
  have q65 : v59 = (Bo (slpOk A_g A_p)) := q65
  obtain rfl := q65
  have q66 : ∃ b : Nat, v60 = .pointer (some ⟨b, 0, none⟩) ∧ w39.heap.size ≤ b ∧ Blk w61 b [(Fl 0), (Fl 0), (Fl 0)] := q66
  obtain ⟨b74, rfl, hb75, hB76⟩ := q66
  have n77 : b21 < b74 := Nat.lt_of_lt_of_le (Blk.lt ((hB23.ext E31).ext E38)) hb75
  have n78 : b28 < b74 := Nat.lt_of_lt_of_le (Blk.lt (hB30.ext E38)) hb75
  have g79 : w.heap.size ≤ b74 := Nat.le_trans (Below.size X42) hb75
  show wpList _ _ _ _ (fr [_, _, _, _, _, _, _, _, _, _, _, _, _, _, _, _, _, _, _, _, _, _, _, _, _, _, _, _, _, _, _, _, _, _, _, _, _, _, _, _, _, _, _, _, _, _, _]) _
  refine seqn rfl rfl (does_store (n := 3) (cs := [(Fl 0), (Fl 0), (Fl 0)]) (u := (.agg #[(Fl r68), (Fl r70), (Fl r72)])) (ev rfl) (ev rfl) Try.sizeOf31 rfl hB76 (Nat.le_of_ble_eq_true rfl) rfl) ?_; rintro _ w82 ⟨rfl, W80, hB81⟩
  change Blk _ _ [(Fl r68), (Fl r70), (Fl r72)] at hB81
  have X83 := Below.wr X67 W80 g79
  refine q_is rfl rfl (does_assign (u := (Bo (slpOk A_g A_p))) (ev rfl)) (by dsimp only [List.set]; try rfl) ?_
  refine wpList_nil (hK47 _ _ ?_)
  refine wp_seq_k fun K84 hK84 => ?_
  refine wp_region_lit ?_
  refine q_is rfl rfl (does_loadAgg (cs := [(Fl r1), (Fl r3), (Fl r5), (Fl r7), (Iv A_g.x), (Iv A_g.y), (Iv A_g.z), (.slice p17 A_g.vals.length q18)]) (ev rfl) Try.isAgg27 Try.sizeOf27 (Blk.cells (((((hB23.ext E31).ext E38).ext E49).ext E62).wr W80 (Nat.ne_of_lt n77))) rfl) (by dsimp only [List.set]; try rfl) ?_
  refine seqd rfl rfl (does_call (args := #[(.agg #[(Fl r1), (Fl r3), (Fl r5), (Fl r7), (Iv A_g.x), (Iv A_g.y), (Iv A_g.z), (.slice p17 A_g.vals.length q18)])]) cal7 (evs rfl) (c_laws_toGrid [(Fl r1), (Fl r3), (Fl r5), (Fl r7), (Iv A_g.x), (Iv A_g.y), (Iv A_g.z), (.slice p17 A_g.vals.length q18)] A_g _ ⟨r1, r3, r5, r7, (.slice p17 A_g.vals.length q18), rfl, h2, h4, h6, h8, (Sl.ext hs19 RF.mono X83)⟩ (by omega))) ?_; rintro _ w86 ⟨E85, ⟨cs88, Lw89, rfl, hh87, hw90⟩⟩
  have X91 := Ext.gr X83 E85
  have n92 : b21 < w82.heap.size := Blk.lt (((((hB23.ext E31).ext E38).ext E49).ext E62).wr W80 (Nat.ne_of_lt n77))
  have n93 : b28 < w82.heap.size := Blk.lt ((((hB30.ext E38).ext E49).ext E62).wr W80 (Nat.ne_of_lt n78))
  have n94 : b74 < w82.heap.size := Blk.lt hB81
  obtain ⟨r95, r97, r99, r101, y103, rfl, h96, h98, h100, h102, h104⟩ := hh87.get
  have h104l := Sl.len h104; obtain ⟨p105, q106, rfl⟩ := Sl.shape h104
  have hh107 : Hang w82.heap.size w86 (fun u => Sl RF 1 u (.slice p105 A_g.vals.length q106) A_g.vals) := fun u hu => by obtain ⟨_, _, _, _, _, hq, _, _, _, _, _⟩ := hh87 u hu; cases hq; assumption
  have hw108 : WL 1 w82.heap.size w86 Lw89 (.slice p105 A_g.vals.length q106) A_g.vals.length := hw90
  show wpList _ _ _ _ (fr [_, _, _, _, _, _, _, _, _, _, _, _, _, _, _, _, _, _, _, _, _, _, _, _, _, _, _, _, _, _, _, _, _, _, _, _, _, _, _, _, _, _, _, _, _, _, _]) _
  refine seqd rfl rfl (does_alloc z33) ?_; rintro _ w113 ⟨b109, rfl, hb110, hB111, E112⟩
  have n114 : b21 < b109 := Nat.lt_of_lt_of_le (Blk.lt ((((((hB23.ext E31).ext E38).ext E49).ext E62).wr W80 (Nat.ne_of_lt n77)).ext E85)) hb110
  have n115 : b28 < b109 := Nat.lt_of_lt_of_le (Blk.lt (((((hB30.ext E38).ext E49).ext E62).wr W80 (Nat.ne_of_lt n78)).ext E85)) hb110
  have n116 : b74 < b109 := Nat.lt_of_lt_of_le (Blk.lt (hB81.ext E85)) hb110
  have g117 : w.heap.size ≤ b109 := Nat.le_trans (Below.size X91) hb110
  change Blk _ _ [(Fl 0), (Fl 0), (Fl 0), (Fl 0), (Iv 0), (Iv 0), (Iv 0), (.slice none 0 0)] at hB111
  have X118 := Ext.gr X91 E112
  show wpList _ _ _ _ (fr [_, _, _, _, _, _, _, _, _, _, _, _, _, _, _, _, _, _, _, _, _, _, _, _, _, _, _, _, _, _, _, _, _, _, _, _, _, _, _, _, _, _, _, _, _, _, _]) _
  refine seqn rfl rfl (does_store (n := 8) (cs := [(Fl 0), (Fl 0), (Fl 0), (Fl 0), (Iv 0), (Iv 0), (Iv 0), (.slice none 0 0)]) (u := (.agg #[(Fl r95), (Fl r97), (Fl r99), (Fl r101), (Iv A_g.x), (Iv A_g.y), (Iv A_g.z), (.slice p105 A_g.vals.length q106)])) (ev rfl) (ev rfl) Try.sizeOf33 rfl hB111 (Nat.le_of_ble_eq_true rfl) rfl) ?_; rintro _ w121 ⟨rfl, W119, hB120⟩
  change Blk _ _ [(Fl r95), (Fl r97), (Fl r99), (Fl r101), (Iv A_g.x), (Iv A_g.y), (Iv A_g.z), (.slice p105 A_g.vals.length q106)] at hB120
  have X122 := Below.wr X118 W119 g117
  refine wpList_nil (hK84 _ _ ?_)
  refine wp_seq_k fun K123 hK123 => ?_
  refine region_draw (
    [Fact.pure [] (fun v => v = (.agg #[(Fl r95), (Fl r97), (Fl r99), (Fl r101), (Iv A_g.x), (Iv A_g.y), (Iv A_g.z), (.slice p105 A_g.vals.length q106)])),
    Fact.pure [] (fun v => v = (.agg #[(Fl r11), (Fl r13), (Fl r15)])),
    Fact.pure [28] (fun v => ∃ cs_1 : List Value, v = (.agg cs_1.toArray) ∧ RV3 w A_p cs_1),
    Fact.pure [27, 29] (fun v => ∃ cs_1 : List Value, v = (.tuple #[(.agg cs_1.toArray), (Bo (slpOk A_g A_p))]) ∧ RV3 w (slpV A_g A_p) cs_1),
    Fact.pure [30] (fun v => ∃ cs_1 : List Value, v = (.tuple #[(.agg cs_1.toArray), (Bo (slpOk A_g A_p))]) ∧ RV3 w (slpV A_g A_p) cs_1),
    Fact.pure [26] (fun v => ∃ cs_1 : List Value, v = (.agg cs_1.toArray) ∧ RV3 w (slpV A_g A_p) cs_1),
    Fact.flt [26] (fun v => v = (Bo (slpOk A_g A_p))),
    Fact.mem [] (fun v w' => ∃ b : Nat, v = .pointer (some ⟨b, 0, none⟩) ∧ w121.heap.size ≤ b ∧ Blk w' b [(Fl 0), (Fl 0), (Fl 0)]) (by rintro v w1 w2 hx ⟨b, rfl, hb, hB⟩; exact ⟨b, rfl, hb, (hB.ext hx)⟩)]) mixed (by kernel_rfl) (by intro _ _ d _ _ h; cases d <;> exact h) ?_
  obtain ⟨w124, hw126⟩ : ∃ w', w' = World.drew w121 := ⟨_, rfl⟩; rw [← hw126]; have E125 : Ext w121 w124 := by rw [hw126]; exact Ext.draw _
  clear hw126
  have X127 := Ext.gr X122 E125
  refine RW_d _ rfl (fun v => by dsimp only [List.set]; try rfl) (fun u hu hF => ?_) (fun v128 => ?_)
  · clear hF
    refine doesG_un rfl ?_
    refine (does_loadAgg (cs := [(Fl r95), (Fl r97), (Fl r99), (Fl r101), (Iv A_g.x), (Iv A_g.y), (Iv A_g.z), (.slice p105 A_g.vals.length q106)]) (ev rfl) Try.isAgg33 Try.sizeOf33 (Blk.cells ((hB120.ext E125).ext hu)) rfl).mono ?_; rintro _ _ ⟨rfl, rfl⟩
    exact ⟨rfl, Ext.refl _⟩
  refine RW_d _ rfl (fun v => by dsimp only [List.set]; try rfl) (fun u hu hF => ?_) (fun v129 => ?_)
  · clear hF
    refine doesG_un rfl ?_
    refine (does_loadAgg (cs := [(Fl r11), (Fl r13), (Fl r15)]) (ev rfl) Try.isAgg24 Try.sizeOf24 (Blk.cells (((((((((hB30.ext E38).ext E49).ext E62).wr W80 (Nat.ne_of_lt n78)).ext E85).ext E112).wr W119 (Nat.ne_of_lt n115)).ext E125).ext hu)) rfl).mono ?_; rintro _ _ ⟨rfl, rfl⟩
    exact ⟨rfl, Ext.refl _⟩
  refine RW_d _ rfl (fun v => by dsimp only [List.set]; try rfl) (fun u hu hF => ?_) (fun v130 => ?_)
  · have h28_ : v129 = (.agg #[(Fl r11), (Fl r13), (Fl r15)]) := hF.1
    clear hF
    refine doesG_un rfl ?_
    obtain rfl := h28_
    refine (does_call (args := #[(.agg #[(Fl r11), (Fl r13), (Fl r15)])]) cal8 (evs rfl) (c_laws_toVector [(Fl r11), (Fl r13), (Fl r15)] A_p _ ⟨r11, r13, r15, rfl, h12, h14, h16⟩)).mono ?_; rintro v u' ⟨hx, ⟨csn1, hv, k0⟩⟩
    exact ⟨⟨csn1, hv, k0⟩, hx⟩
  refine RW_d _ rfl (fun v => by dsimp only [List.set]; try rfl) (fun u hu hF => ?_) (fun v131 => ?_)
  · have h27_ : v128 = (.agg #[(Fl r95), (Fl r97), (Fl r99), (Fl r101), (Iv A_g.x), (Iv A_g.y), (Iv A_g.z), (.slice p105 A_g.vals.length q106)]) := hF.1
    have h29_ : ∃ cs_1 : List Value, v130 = (.agg cs_1.toArray) ∧ RV3 w A_p cs_1 := hF.2.1
    clear hF
    refine doesG_un rfl ?_
    obtain rfl := h27_
    obtain ⟨_, rfl, ⟨r29_1, r29_3, r29_5, rfl, h29_2, h29_4, h29_6⟩⟩ := h29_
    refine (does_call (args := #[(.agg #[(Fl r95), (Fl r97), (Fl r99), (Fl r101), (Iv A_g.x), (Iv A_g.y), (Iv A_g.z), (.slice p105 A_g.vals.length q106)]), (.agg #[(Fl r29_1), (Fl r29_3), (Fl r29_5)])]) cal13 (evs rfl) (c_impl_SlopeBetween [(Fl r95), (Fl r97), (Fl r99), (Fl r101), (Iv A_g.x), (Iv A_g.y), (Iv A_g.z), (.slice p105 A_g.vals.length q106)] A_g [(Fl r29_1), (Fl r29_3), (Fl r29_5)] A_p _ ⟨r95, r97, r99, r101, (.slice p105 A_g.vals.length q106), rfl, h96, h98, h100, h102, (Sl.ext (hh107 _ ((((Same.refl _ _).ext E112).wr W119 (.inr (Nat.le_trans (Below.size (Ext.refl _)) hb110))).ext E125)) RF.mono hu)⟩ ⟨r29_1, r29_3, r29_5, rfl, (by assumption), (by assumption), (by assumption)⟩)).mono ?_; rintro v u' ⟨hx, ⟨csn1, hv, k0⟩⟩
    exact ⟨⟨csn1, hv.trans (by simp only [h29_2, h29_4, h29_6]), (by first | exact k0 | simpa only [h29_2, h29_4, h29_6] using RV3.any (w := w) k0)⟩, hx⟩
  refine RW_d _ rfl (fun v => by dsimp only [List.set]; try rfl) (fun u hu hF => ?_) (fun v132 => ?_)
  · have h30_ : ∃ cs_1 : List Value, v131 = (.tuple #[(.agg cs_1.toArray), (Bo (slpOk A_g A_p))]) ∧ RV3 w (slpV A_g A_p) cs_1 := hF.1
    clear hF
    refine doesG_un rfl ?_
    obtain ⟨_, rfl, ⟨r30_1, r30_3, r30_5, rfl, h30_2, h30_4, h30_6⟩⟩ := h30_
    refine (does_move (u := (.tuple #[(.agg #[(Fl r30_1), (Fl r30_3), (Fl r30_5)]), (Bo (slpOk A_g A_p))])) (ev rfl)).mono ?_; rintro _ _ ⟨rfl, rfl⟩
    exact ⟨⟨[(Fl r30_1), (Fl r30_3), (Fl r30_5)], rfl, ⟨r30_1, r30_3, r30_5, rfl, (by first | assumption | rfl), (by first | assumption | rfl), (by first | assumption | rfl)⟩⟩, Ext.refl _⟩
  refine RW_d _ rfl (fun v => by dsimp only [List.set]; try rfl) (fun u hu hF => ?_) (fun v133 => ?_)
  · have h26_ : ∃ cs_1 : List Value, v132 = (.tuple #[(.agg cs_1.toArray), (Bo (slpOk A_g A_p))]) ∧ RV3 w (slpV A_g A_p) cs_1 := hF.1
    clear hF
    refine doesG_un rfl ?_
    obtain ⟨_, rfl, ⟨r26_1, r26_3, r26_5, rfl, h26_2, h26_4, h26_6⟩⟩ := h26_
    refine (does_extract (vs := #[(.agg #[(Fl r26_1), (Fl r26_3), (Fl r26_5)]), (Bo (slpOk A_g A_p))]) (u := (.agg #[(Fl r26_1), (Fl r26_3), (Fl r26_5)])) (ev rfl) rfl).mono ?_; rintro _ _ ⟨rfl, rfl⟩
    exact ⟨⟨[(Fl r26_1), (Fl r26_3), (Fl r26_5)], rfl, ⟨r26_1, r26_3, r26_5, rfl, (by first | assumption | rfl), (by first | assumption | rfl), (by first | assumption | rfl)⟩⟩, Ext.refl _⟩
  refine RW_d _ rfl (fun v => by dsimp only [List.set]; try rfl) (fun u hu hF => ?_) (fun v134 => ?_)
  · have h26_ : ∃ cs_1 : List Value, v132 = (.tuple #[(.agg cs_1.toArray), (Bo (slpOk A_g A_p))]) ∧ RV3 w (slpV A_g A_p) cs_1 := hF.1
    clear hF
    obtain ⟨_, rfl, ⟨r26_1, r26_3, r26_5, rfl, h26_2, h26_4, h26_6⟩⟩ := h26_
    exact ⟨_, yields_is rfl (run_extract (ev rfl) rfl), (by first | rfl | (show _ = _; simp only [h26_2, h26_4, h26_6]; done) | (show _ = _; simp only [h26_2, h26_4, h26_6]; rfl))⟩
  refine RW_d _ rfl (fun v => by dsimp only [List.set]; try rfl) (fun u hu hF => ?_) (fun v135 => ?_)
  · clear hF
    refine doesG_un rfl ?_
    refine (does_alloc z31).mono ?_; rintro _ _ ⟨b, rfl, hb, hB, hx⟩
    exact ⟨⟨b, rfl, Nat.le_trans (Nat.le_trans (Below.size E125) (Below.size hu)) hb, hB⟩, hx⟩
  refine RW_fin ?_; intro w136 E137 hP138
  obtain ⟨⟨⟨⟨⟨⟨⟨⟨-, -⟩, -⟩, -⟩, -⟩, -⟩, q139⟩, q140⟩, q141⟩ := hP138
  have X142 := Ext.gr X127 E137
  have q139 : ∃ cs_1 : List Value, v133 = (.agg cs_1.toArray) ∧ RV3 w (slpV A_g A_p) cs_1 := q139
  obtain ⟨_, rfl, ⟨r143, r145, r147, rfl, h144, h146, h148⟩⟩ := q139
  have q140 : v134 = (Bo (slpOk A_g A_p)) := q140
  obtain rfl := q140
  have q141 : ∃ b : Nat, v135 = .pointer (some ⟨b, 0, none⟩) ∧ w121.heap.size ≤ b ∧ Blk w136 b [(Fl 0), (Fl 0), (Fl 0)] := q141
  obtain ⟨b149, rfl, hb150, hB151⟩ := q141
  have n152 : b21 < b149 := Nat.lt_of_lt_of_le (Blk.lt ((((((((hB23.ext E31).ext E38).ext E49).ext E62).wr W80 (Nat.ne_of_lt n77)).ext E85).ext E112).wr W119 (Nat.ne_of_lt n114))) hb150
  have n153 : b28 < b149 := Nat.lt_of_lt_of_le (Blk.lt (((((((hB30.ext E38).ext E49).ext E62).wr W80 (Nat.ne_of_lt n78)).ext E85).ext E112).wr W119 (Nat.ne_of_lt n115))) hb150
  have n154 : b74 < b149 := Nat.lt_of_lt_of_le (Blk.lt (((hB81.ext E85).ext E112).wr W119 (Nat.ne_of_lt n116))) hb150
  have n155 : b109 < b149 := Nat.lt_of_lt_of_le (Blk.lt hB120) hb150
  have g156 : w.heap.size ≤ b149 := Nat.le_trans (Below.size X122) hb150
  show wpList _ _ _ _ (fr [_, _, _, _, _, _, _, _, _, _, _, _, _, _, _, _, _, _, _, _, _, _, _, _, _, _, _, _, _, _, _, _, _, _, _, _, _, _, _, _, _, _, _, _, _, _, _]) _
  refine seqn rfl rfl (does_store (n := 3) (cs := [(Fl 0), (Fl 0), (Fl 0)]) (u := (.agg #[(Fl r143), (Fl r145), (Fl r147)])) (ev rfl) (ev rfl) Try.sizeOf31 rfl hB151 (Nat.le_of_ble_eq_true rfl) rfl) ?_; rintro _ w159 ⟨rfl, W157, hB158⟩
  change Blk _ _ [(Fl r143), (Fl r145), (Fl r147)] at hB158
  have X160 := Below.wr X142 W157 g156
  refine q_is rfl rfl (does_assign (u := (Bo (slpOk A_g A_p))) (ev rfl)) (by dsimp only [List.set]; try rfl) ?_
  refine wpList_nil (hK123 _ _ ?_)
  refine wp_seq_k fun K161 hK161 => ?_
  refine wp_seq_k fun K162 hK162 => ?_
  obtain ⟨β1, hβ1⟩ : ∃ b : Bool, b = (sameV (slpV A_g A_p) (slpV A_g A_p)) := ⟨_, rfl⟩
  obtain ⟨β2, hβ2⟩ : ∃ b : Bool, b = ((slpOk A_g A_p) != (slpOk A_g A_p)) := ⟨_, rfl⟩
  refine region_text (
    [Fact.pure [] (fun v => v = (.agg #[(Fl r143), (Fl r145), (Fl r147)])),
    Fact.pure [] (fun v => v = (.agg #[(Fl r68), (Fl r70), (Fl r72)])),
    Fact.pure [33, 34] (fun v => v = (Bo β1)),
    Fact.pure [35] (fun v => v = (Bo (!β1))),
    Fact.pure [36] (fun v => v = (Bo (!β1))),
    Fact.pure [37] (fun v => (!β1) = false → v = (Bo (slpOk A_g A_p))),
    Fact.pure [37] (fun v => (!β1) = false → v = (Bo (slpOk A_g A_p))),
    Fact.pure [38, 39, 37] (fun v => (!β1) = false → v = (Bo β2)),
    Fact.pure [37, 40] (fun v => v = (Bo ((!β1) || β2)))]) (by simp [Fact.pure, Fact.mem]) ?_
  refine RW_d _ rfl (fun v => by dsimp only [List.set]; try rfl) (fun u hu hF => ?_) (fun v163 => ?_)
  · clear hF
    refine doesG_un rfl ?_
    refine (does_loadAgg (cs := [(Fl r143), (Fl r145), (Fl r147)]) (ev rfl) Try.isAgg31 Try.sizeOf31 (Blk.cells (hB158.ext hu)) rfl).mono ?_; rintro _ _ ⟨rfl, rfl⟩
    exact ⟨rfl, Ext.refl _⟩
  refine RW_d _ rfl (fun v => by dsimp only [List.set]; try rfl) (fun u hu hF => ?_) (fun v164 => ?_)
  · clear hF
    refine doesG_un rfl ?_
    refine (does_loadAgg (cs := [(Fl r68), (Fl r70), (Fl r72)]) (ev rfl) Try.isAgg31 Try.sizeOf31 (Blk.cells (((((((hB81.ext E85).ext E112).wr W119 (Nat.ne_of_lt n116)).ext E125).ext E137).wr W157 (Nat.ne_of_lt n154)).ext hu)) rfl).mono ?_; rintro _ _ ⟨rfl, rfl⟩
    exact ⟨rfl, Ext.refl _⟩
  refine RW_d _ rfl (fun v => by dsimp only [List.set]; try rfl) (fun u hu hF => ?_) (fun v165 => ?_)
  · have h33_ : v163 = (.agg #[(Fl r143), (Fl r145), (Fl r147)]) := hF.1
    have h34_ : v164 = (.agg #[(Fl r68), (Fl r70), (Fl r72)]) := hF.2.1
    clear hF
    refine doesG_un rfl ?_
    obtain rfl := h33_
    obtain rfl := h34_
    refine (does_call (args := #[(.agg #[(Fl r143), (Fl r145), (Fl r147)]), (.agg #[(Fl r68), (Fl r70), (Fl r72)])]) cal14 (evs rfl) (c_laws_eqVector [(Fl r143), (Fl r145), (Fl r147)] (slpV A_g A_p) [(Fl r68), (Fl r70), (Fl r72)] (slpV A_g A_p) _ ⟨r143, r145, r147, rfl, h144, h146, h148⟩ ⟨r68, r70, r72, rfl, h69, h71, h73⟩)).mono ?_; rintro v u' ⟨hx, hv⟩
    exact ⟨hv.trans (by simp only [hβ1]), hx⟩
  refine RW_d _ rfl (fun v => by dsimp only [List.set]; try rfl) (fun u hu hF => ?_) (fun v166 => ?_)
  · have h35_ : v165 = (Bo β1) := hF.1
    clear hF
    refine doesG_un rfl ?_
    obtain rfl := h35_
    refine (does_not (ev rfl)).mono ?_; rintro _ _ ⟨rfl, rfl⟩
    exact ⟨rfl, Ext.refl _⟩
  refine RW_d _ rfl (fun v => by dsimp only [List.set]; try rfl) (fun u hu hF => ?_) (fun v167 => ?_)
  · have h36_ : v166 = (Bo (!β1)) := hF.1
    clear hF
    refine doesG_un rfl ?_
    obtain rfl := h36_
    refine (does_move (u := (Bo (!β1))) (ev rfl)).mono ?_; rintro _ _ ⟨rfl, rfl⟩
    exact ⟨rfl, Ext.refl _⟩
  refine RW_d _ rfl (fun v => by dsimp only [List.set]; try rfl) (fun u hu hF => ?_) (fun v168 => ?_)
  · have h37_ : v167 = (Bo (!β1)) := hF.1
    clear hF
    obtain rfl := h37_
    refine doesG_g (b := (!β1)) rfl (yld rfl rfl) (fun hg1 => ?_) (fun hc => ⟨fun hg1 => absurd hg1 hc, Ext.refl _⟩)
    refine (does_move (u := (Bo (slpOk A_g A_p))) (ev rfl)).mono ?_; rintro _ _ ⟨rfl, rfl⟩
    exact ⟨fun _ => rfl, Ext.refl _⟩
  refine RW_d _ rfl (fun v => by dsimp only [List.set]; try rfl) (fun u hu hF => ?_) (fun v169 => ?_)
  · have h37_ : v167 = (Bo (!β1)) := hF.1
    clear hF
    obtain rfl := h37_
    refine doesG_g (b := (!β1)) rfl (yld rfl rfl) (fun hg1 => ?_) (fun hc => ⟨fun hg1 => absurd hg1 hc, Ext.refl _⟩)
    refine (does_move (u := (Bo (slpOk A_g A_p))) (ev rfl)).mono ?_; rintro _ _ ⟨rfl, rfl⟩
    exact ⟨fun _ => rfl, Ext.refl _⟩
  refine RW_d _ rfl (fun v => by dsimp only [List.set]; try rfl) (fun u hu hF => ?_) (fun v170 => ?_)
  · have h38_ : (!β1) = false → v168 = (Bo (slpOk A_g A_p)) := hF.1
    have h39_ : (!β1) = false → v169 = (Bo (slpOk A_g A_p)) := hF.2.1
    have h37_ : v167 = (Bo (!β1)) := hF.2.2.1
    clear hF
    obtain rfl := h37_
    refine doesG_g (b := (!β1)) rfl (yld rfl rfl) (fun hg1 => ?_) (fun hc => ⟨fun hg1 => absurd hg1 hc, Ext.refl _⟩)
    obtain rfl := h38_ hg1
    obtain rfl := h39_ hg1
    refine (does_bne (p := (slpOk A_g A_p)) (q := (slpOk A_g A_p)) Try.underlying4 (ev rfl) (ev rfl)).mono ?_; rintro _ _ ⟨rfl, rfl⟩
    exact ⟨fun _ => (by first | rfl | (show _ = _; simp only [hβ2]; done) | (show _ = _; simp only [hβ2]; rfl)), Ext.refl _⟩
  refine RW_d _ rfl (fun v => by dsimp only [List.set]; try rfl) (fun u hu hF => ?_) (fun v171 => ?_)
  · have h37_ : v167 = (Bo (!β1)) := hF.1
    have h40_ : (!β1) = false → v170 = (Bo β2) := hF.2.1
    clear hF
    refine doesG_un rfl ?_
    skip
    obtain rfl := h37_
    refine (does_pick (b := (!β1)) (ev rfl) (ev rfl) (ev rfl)).mono ?_; rintro _ _ ⟨rfl, rfl⟩; refine ⟨?_, Ext.refl _⟩; skip
    cases hbb : (!β1)
    all_goals first | rfl | (have e_ := h40_ hbb; subst e_; rfl) | (simp [hbb] at h40_ ⊢; first | done | rfl | (subst h40_; rfl) | simp_all) | (simp [hbb] at h40_ ⊢; done)
  refine RW_fin ?_; intro w172 E173 hP174
  obtain ⟨⟨⟨⟨⟨⟨⟨⟨⟨-, -⟩, -⟩, -⟩, -⟩, -⟩, -⟩, -⟩, -⟩, q175⟩ := hP174
  have X176 := Ext.gr X160 E173
  have q175 : v171 = (Bo ((!β1) || β2)) := q175
  obtain rfl := q175
  show wpList _ _ _ _ (fr [_, _, _, _, _, _, _, _, _, _, _, _, _, _, _, _, _, _, _, _, _, _, _, _, _, _, _, _, _, _, _, _, _, _, _, _, _, _, _, _, _, _, _, _, _, _, _]) _
  refine wpList_nil (hK162 _ _ ?_)
  refine wp_cond_split (t := (!β1) || β2) (ev rfl) (fun c177 => ?_) (fun c177 => ?_)
  · have c177' := c177
    (try simp only [hβ1, hβ2] at c177')
    (try simp only [icmp, Bool.and_eq_true, Bool.or_eq_true, Bool.and_eq_false_iff, Bool.or_eq_false_iff, Bool.not_eq_true', Bool.not_eq_false', decide_eq_true_eq, decide_eq_false_iff_not, beq_iff_eq, bne_iff_ne, beq_eq_false_iff_ne, bne_eq_false_iff_eq] at c177')
    refine wp_seq_k fun K178 hK178 => ?_
    refine wp_region_lit ?_
    refine q_is rfl rfl (does_assign (u := (Bo false)) (ev rfl)) (by dsimp only [List.set]; try rfl) ?_
    refine wpList_nil (hK178 _ _ ?_)
    refine wp_ret ?_
    dsimp only [Exit.then, Exit.inBlock]
    refine ret_val (v := (Bo false)) (res_T rfl (slot rfl)) X176 ?_
    try simp only [h2, h4, h6, h8, h12, h14, h16, h69, h71, h73, h96, h98, h100, h102, h144, h146, h148, hβ1, hβ2] at c45 c177
    have x179 : true = false := by first | with_reducible rfl | (simp only [sameV_self, sameG_self, bne_self_eq_false, h2, h4, h6, h8, h12, h14, h16, h69, h71, h73, h96, h98, h100, h102, h144, h146, h148, hβ1, hβ2, c45, c177]; done) | (simp [sameV_self, sameG_self, bne_self_eq_false, h2, h4, h6, h8, h12, h14, h16, h69, h71, h73, h96, h98, h100, h102, h144, h146, h148, hβ1, hβ2, c45, c177]; done) | (revert c45 c177; simp +contextual [sameV_self, sameG_self, bne_self_eq_false, h2, h4, h6, h8, h12, h14, h16, h69, h71, h73, h96, h98, h100, h102, h144, h146, h148, hβ1, hβ2]; done) | (rcases c45' with hh | hh <;> simp only [hh, sameV_self, sameG_self, bne_self_eq_false, h2, h4, h6, h8, h12, h14, h16, h69, h71, h73, h96, h98, h100, h102, h144, h146, h148, hβ1, hβ2, c45, c177]; done) | (rcases c177' with hh | hh <;> simp only [hh, sameV_self, sameG_self, bne_self_eq_false, h2, h4, h6, h8, h12, h14, h16, h69, h71, h73, h96, h98, h100, h102, h144, h146, h148, hβ1, hβ2, c45, c177]; done) | (rcases c177' with hh | hh <;> simp_all [sameV_self, sameG_self, bne_self_eq_false]; done) | (rcases c177' with hh | hh | hh <;> simp_all [sameV_self, sameG_self, bne_self_eq_false]; done) | (rcases c177' with hh | hh | hh | hh <;> simp_all [sameV_self, sameG_self, bne_self_eq_false]; done) | (simp_all [sameV_self, sameG_self, bne_self_eq_false]; done) | rfl
    exact (by first | rfl | rw [x179])
  have c177' := c177
  (try simp only [hβ1, hβ2] at c177')
  (try simp only [icmp, Bool.and_eq_true, Bool.or_eq_true, Bool.and_eq_false_iff, Bool.or_eq_false_iff, Bool.not_eq_true', Bool.not_eq_false', decide_eq_true_eq, decide_eq_false_iff_not, beq_iff_eq, bne_iff_ne, beq_eq_false_iff_ne, bne_eq_false_iff_eq] at c177')
  refine wp_skip (hK161 _ _ ?_)
  refine wp_seq_k fun K180 hK180 => ?_
  refine wp_seq_k fun K181 hK181 => ?_
  refine region_draw (
    [Fact.pure [] (fun v => v = (.agg #[(Fl r95), (Fl r97), (Fl r99), (Fl r101), (Iv A_g.x), (Iv A_g.y), (Iv A_g.z), (.slice p105 A_g.vals.length q106)])),
    Fact.pure [] (fun v => v = (.agg #[(Fl r1), (Fl r3), (Fl r5), (Fl r7), (Iv A_g.x), (Iv A_g.y), (Iv A_g.z), (.slice p17 A_g.vals.length q18)])),
    Fact.mem [43] (fun v w' => ∃ cs_1 : List Value, ∃ Lw_2 : List Nat, v = (.agg cs_1.toArray) ∧ Hang w172.heap.size w' (fun u => RGridT u A_g cs_1) ∧ WL 1 w172.heap.size w' Lw_2 (cellN cs_1 7) A_g.vals.length) (by rintro v w1 w2 hx ⟨z1, z2, rfl, k0, k1⟩; exact ⟨_, _, rfl, (k0.ext hx), (k1.same (Same.of_ext hx))⟩),
    Fact.pure [42, 44] (fun v => v = (Bo (sameG A_g A_g))),
    Fact.pure [45] (fun v => v = (Bo (!(sameG A_g A_g))))]) mixed (by kernel_rfl) (by intro _ _ d _ _ h; cases d <;> exact h) ?_
  obtain ⟨w182, hw184⟩ : ∃ w', w' = World.drew w172 := ⟨_, rfl⟩; rw [← hw184]; have E183 : Ext w172 w182 := by rw [hw184]; exact Ext.draw _
  clear hw184
  have X185 := Ext.gr X176 E183
  refine RW_d _ rfl (fun v => by dsimp only [List.set]; try rfl) (fun u hu hF => ?_) (fun v186 => ?_)
  · clear hF
    refine doesG_un rfl ?_
    refine (does_loadAgg (cs := [(Fl r95), (Fl r97), (Fl r99), (Fl r101), (Iv A_g.x), (Iv A_g.y), (Iv A_g.z), (.slice p105 A_g.vals.length q106)]) (ev rfl) Try.isAgg33 Try.sizeOf33 (Blk.cells ((((((hB120.ext E125).ext E137).wr W157 (Nat.ne_of_lt n155)).ext E173).ext E183).ext hu)) rfl).mono ?_; rintro _ _ ⟨rfl, rfl⟩
    exact ⟨rfl, Ext.refl _⟩
  refine RW_d _ rfl (fun v => by dsimp only [List.set]; try rfl) (fun u hu hF => ?_) (fun v187 => ?_)
  · clear hF
    refine doesG_un rfl ?_
    refine (does_loadAgg (cs := [(Fl r1), (Fl r3), (Fl r5), (Fl r7), (Iv A_g.x), (Iv A_g.y), (Iv A_g.z), (.slice p17 A_g.vals.length q18)]) (ev rfl) Try.isAgg27 Try.sizeOf27 (Blk.cells ((((((((((((((hB23.ext E31).ext E38).ext E49).ext E62).wr W80 (Nat.ne_of_lt n77)).ext E85).ext E112).wr W119 (Nat.ne_of_lt n114)).ext E125).ext E137).wr W157 (Nat.ne_of_lt n152)).ext E173).ext E183).ext hu)) rfl).mono ?_; rintro _ _ ⟨rfl, rfl⟩
    exact ⟨rfl, Ext.refl _⟩
  refine RW_d _ rfl (fun v => by dsimp only [List.set]; try rfl) (fun u hu hF => ?_) (fun v188 => ?_)
  · have h43_ : v187 = (.agg #[(Fl r1), (Fl r3), (Fl r5), (Fl r7), (Iv A_g.x), (Iv A_g.y), (Iv A_g.z), (.slice p17 A_g.vals.length q18)]) := hF.1
    clear hF
    refine doesG_un rfl ?_
    obtain rfl := h43_
    refine (does_call (args := #[(.agg #[(Fl r1), (Fl r3), (Fl r5), (Fl r7), (Iv A_g.x), (Iv A_g.y), (Iv A_g.z), (.slice p17 A_g.vals.length q18)])]) cal7 (evs rfl) (c_laws_toGrid [(Fl r1), (Fl r3), (Fl r5), (Fl r7), (Iv A_g.x), (Iv A_g.y), (Iv A_g.z), (.slice p17 A_g.vals.length q18)] A_g _ ⟨r1, r3, r5, r7, (.slice p17 A_g.vals.length q18), rfl, h2, h4, h6, h8, (Sl.ext (Sl.ext hs19 RF.mono (Ext.gr X176 E183)) RF.mono hu)⟩ (by omega))).mono ?_; rintro v u' ⟨hx, ⟨csn1, Lwn2, hv, k0, k1⟩⟩
    exact ⟨⟨csn1, Lwn2, hv, (Hang.le k0 (Nat.le_trans (Below.size E183) (Below.size hu))), (WL.le k1 (Nat.le_trans (Below.size E183) (Below.size hu)))⟩, hx⟩
  refine RW_d _ rfl (fun v => by dsimp only [List.set]; try rfl) (fun u hu hF => ?_) (fun v189 => ?_)
  · have h42_ : v186 = (.agg #[(Fl r95), (Fl r97), (Fl r99), (Fl r101), (Iv A_g.x), (Iv A_g.y), (Iv A_g.z), (.slice p105 A_g.vals.length q106)]) := hF.1
    have h44_ : ∃ cs_1 : List Value, ∃ Lw_2 : List Nat, v188 = (.agg cs_1.toArray) ∧ Hang w172.heap.size u (fun u => RGridT u A_g cs_1) ∧ WL 1 w172.heap.size u Lw_2 (cellN cs_1 7) A_g.vals.length := hF.2.1
    clear hF
    refine doesG_un rfl ?_
    obtain rfl := h42_
    obtain ⟨cs44_2, Lw44_3, rfl, hh44_1, hw44_4⟩ := h44_
    obtain ⟨r44_5, r44_7, r44_9, r44_11, y44_13, rfl, h44_6, h44_8, h44_10, h44_12, h44_14⟩ := hh44_1.get
    have hh44_14 := h44_14; obtain ⟨p44_15, q44_16, rfl⟩ := Sl.shape h44_14
    refine (does_call (args := #[(.agg #[(Fl r95), (Fl r97), (Fl r99), (Fl r101), (Iv A_g.x), (Iv A_g.y), (Iv A_g.z), (.slice p105 A_g.vals.length q106)]), (.agg #[(Fl r44_5), (Fl r44_7), (Fl r44_9), (Fl r44_11), (Iv A_g.x), (Iv A_g.y), (Iv A_g.z), (.slice p44_15 A_g.vals.length q44_16)])]) cal11 (evs rfl) (c_laws_eqGrid [(Fl r95), (Fl r97), (Fl r99), (Fl r101), (Iv A_g.x), (Iv A_g.y), (Iv A_g.z), (.slice p105 A_g.vals.length q106)] A_g [(Fl r44_5), (Fl r44_7), (Fl r44_9), (Fl r44_11), (Iv A_g.x), (Iv A_g.y), (Iv A_g.z), (.slice p44_15 A_g.vals.length q44_16)] A_g _ ⟨r95, r97, r99, r101, (.slice p105 A_g.vals.length q106), rfl, h96, h98, h100, h102, (Sl.ext (hh107 _ ((((((((Same.refl _ _).ext E112).wr W119 (.inr (Nat.le_trans (Below.size (Ext.refl _)) hb110))).ext E125).ext E137).wr W157 (.inr (Nat.le_trans (Below.size (Below.wr (Ext.gr (Ext.refl _) E112) W119 (Nat.le_trans (Below.size (Ext.refl _)) hb110))) hb150))).ext E173).ext E183)) RF.mono hu)⟩ ⟨r44_5, r44_7, r44_9, r44_11, (.slice p44_15 A_g.vals.length q44_16), rfl, (by assumption), (by assumption), (by assumption), (by assumption), hh44_14⟩)).mono ?_; rintro v u' ⟨hx, hv⟩
    exact ⟨hv.trans (by simp only [h44_6, h44_8, h44_10, h44_12]), hx⟩
  refine RW_d _ rfl (fun v => by dsimp only [List.set]; try rfl) (fun u hu hF => ?_) (fun v190 => ?_)
  · have h45_ : v189 = (Bo (sameG A_g A_g)) := hF.1
    clear hF
    refine doesG_un rfl ?_
    obtain rfl := h45_
    refine (does_not (ev rfl)).mono ?_; rintro _ _ ⟨rfl, rfl⟩
    exact ⟨rfl, Ext.refl _⟩
  refine RW_fin ?_; intro w191 E192 hP193
  obtain ⟨⟨⟨⟨⟨-, -⟩, -⟩, -⟩, -⟩, q194⟩ := hP193
  have X195 := Ext.gr X185 E192
  have q194 : v190 = (Bo (!(sameG A_g A_g))) := q194
  obtain rfl := q194
  show wpList _ _ _ _ (fr [_, _, _, _, _, _, _, _, _, _, _, _, _, _, _, _, _, _, _, _, _, _, _, _, _, _, _, _, _, _, _, _, _, _, _, _, _, _, _, _, _, _, _, _, _, _, _]) _
  refine wpList_nil (hK181 _ _ ?_)
  refine wp_cond_split (t := !(sameG A_g A_g)) (ev rfl) (fun c196 => ?_) (fun c196 => ?_)
  · rw [Bool.not_eq_true'] at c196
    have c196' := c196
    (try simp only [hβ1, hβ2] at c196')
    (try simp only [icmp, Bool.and_eq_true, Bool.or_eq_true, Bool.and_eq_false_iff, Bool.or_eq_false_iff, Bool.not_eq_true', Bool.not_eq_false', decide_eq_true_eq, decide_eq_false_iff_not, beq_iff_eq, bne_iff_ne, beq_eq_false_iff_ne, bne_eq_false_iff_eq] at c196')
    refine wp_seq_k fun K197 hK197 => ?_
    refine wp_region_lit ?_
    refine q_is rfl rfl (does_assign (u := (Bo false)) (ev rfl)) (by dsimp only [List.set]; try rfl) ?_
    refine wpList_nil (hK197 _ _ ?_)
    refine wp_ret ?_
    dsimp only [Exit.then, Exit.inBlock]
    refine ret_val (v := (Bo false)) (res_T rfl (slot rfl)) X195 ?_
    try simp only [h2, h4, h6, h8, h12, h14, h16, h69, h71, h73, h96, h98, h100, h102, h144, h146, h148, hβ1, hβ2] at c45 c177 c196
    have x198 : true = false := by first | with_reducible rfl | (simp only [sameV_self, sameG_self, bne_self_eq_false, h2, h4, h6, h8, h12, h14, h16, h69, h71, h73, h96, h98, h100, h102, h144, h146, h148, hβ1, hβ2, c45, c177, c196]; done) | (simp [sameV_self, sameG_self, bne_self_eq_false, h2, h4, h6, h8, h12, h14, h16, h69, h71, h73, h96, h98, h100, h102, h144, h146, h148, hβ1, hβ2, c45, c177, c196]; done) | (revert c45 c177 c196; simp +contextual [sameV_self, sameG_self, bne_self_eq_false, h2, h4, h6, h8, h12, h14, h16, h69, h71, h73, h96, h98, h100, h102, h144, h146, h148, hβ1, hβ2]; done) | (rcases c45' with hh | hh <;> simp only [hh, sameV_self, sameG_self, bne_self_eq_false, h2, h4, h6, h8, h12, h14, h16, h69, h71, h73, h96, h98, h100, h102, h144, h146, h148, hβ1, hβ2, c45, c177, c196]; done) | (rcases c177' with hh | hh <;> simp only [hh, sameV_self, sameG_self, bne_self_eq_false, h2, h4, h6, h8, h12, h14, h16, h69, h71, h73, h96, h98, h100, h102, h144, h146, h148, hβ1, hβ2, c45, c177, c196]; done) | (rcases c196' with hh | hh <;> simp only [hh, sameV_self, sameG_self, bne_self_eq_false, h2, h4, h6, h8, h12, h14, h16, h69, h71, h73, h96, h98, h100, h102, h144, h146, h148, hβ1, hβ2, c45, c177, c196]; done) | (rcases c196' with hh | hh <;> simp_all [sameV_self, sameG_self, bne_self_eq_false]; done) | (rcases c196' with hh | hh | hh <;> simp_all [sameV_self, sameG_self, bne_self_eq_false]; done) | (rcases c196' with hh | hh | hh | hh <;> simp_all [sameV_self, sameG_self, bne_self_eq_false]; done) | (simp_all [sameV_self, sameG_self, bne_self_eq_false]; done) | rfl
    exact (by first | rfl | rw [x198])
  rw [Bool.not_eq_false'] at c196
  have c196' := c196
  (try simp only [hβ1, hβ2] at c196')
  (try simp only [icmp, Bool.and_eq_true, Bool.or_eq_true, Bool.and_eq_false_iff, Bool.or_eq_false_iff, Bool.not_eq_true', Bool.not_eq_false', decide_eq_true_eq, decide_eq_false_iff_not, beq_iff_eq, bne_iff_ne, beq_eq_false_iff_ne, bne_eq_false_iff_eq] at c196')
  refine wp_skip (hK180 _ _ ?_)
  refine wp_seq_k fun K199 hK199 => ?_
  refine wp_region_lit ?_
  refine q_is rfl rfl (does_assign (u := (Bo true)) (ev rfl)) (by dsimp only [List.set]; try rfl) ?_
  refine wpList_nil (hK199 _ _ ?_)
  refine wp_ret ?_
  refine ret_val (v := (Bo true)) (res_T rfl (slot rfl)) X195 ?_
  try simp only [h2, h4, h6, h8, h12, h14, h16, h69, h71, h73, h96, h98, h100, h102, h144, h146, h148, hβ1, hβ2] at c45 c177 c196
  exact rfl

end Go.Proofs.Ytlpgjgombdcheaa
