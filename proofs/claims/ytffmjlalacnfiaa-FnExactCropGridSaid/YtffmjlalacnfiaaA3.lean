/- contracts of functions, each walked once -/
import Derived.Test.YtffmjlalacnfiaaA2
namespace Go.Proofs.Ytffmjlalacnfiaa
open Go Go.RowKit
set_option maxRecDepth 100000
set_option maxHeartbeats 3200000
set_option linter.unusedVariables false
set_option linter.unusedSimpArgs false

/- impl.ValidGrid -/
theorem c_impl_ValidGrid (g : List Value) (A_g : GridT) (w : World) (hv_g : RGridT w A_g g) : Gives Try.prog 28 #[(.agg g.toArray)] w (fun v w' => v = (Bo (isGrid A_g))) := by
  obtain ⟨r1, r3, r5, r7, y9, rfl, h2, h4, h6, h8, h10⟩ := hv_g
  have hs13 := h10; have hs13l := Sl.len h10; obtain ⟨p11, q12, rfl⟩ := Sl.shape h10
  refine enter [(.agg #[(Fl r1), (Fl r3), (Fl r5), (Fl r7), (Iv A_g.x), (Iv A_g.y), (Iv A_g.z), (.slice p11 A_g.vals.length q12)]), Ud, Ud, Ud, Ud, Ud, Ud, Ud, Ud, Ud, Ud, Ud, Ud, Ud, Ud, Ud, Ud, Ud, Ud, Ud, Ud, Ud, Ud, Ud, Ud, Ud, Ud, Ud, Ud, Ud, Ud, Ud, Ud, Ud, Ud, Ud, Ud, Ud, Ud, Ud, Ud] Try.func28 rfl Try.ntmps28 rfl ?_
  refine wp_seq_k fun K14 hK14 => ?_
  refine wp_region_lit ?_
  refine seqd rfl rfl (does_box (u := (.agg #[(Fl r1), (Fl r3), (Fl r5), (Fl r7), (Iv A_g.x), (Iv A_g.y), (Iv A_g.z), (.slice p11 A_g.vals.length q12)])) (ev rfl)) ?_; rintro _ w19 ⟨b15, rfl, hb16, hB17, E18⟩
  have g20 : w.heap.size ≤ b15 := Nat.le_trans (Below.size (Ext.refl w)) hb16
  change Blk _ _ [(Fl r1), (Fl r3), (Fl r5), (Fl r7), (Iv A_g.x), (Iv A_g.y), (Iv A_g.z), (.slice p11 A_g.vals.length q12)] at hB17
  have X21 := Ext.gr (Ext.refl w) E18
  show wpList _ _ _ _ (fr [(.agg #[(Fl r1), (Fl r3), (Fl r5), (Fl r7), (Iv A_g.x), (Iv A_g.y), (Iv A_g.z), (.slice p11 A_g.vals.length q12)]), (Pt b15 0), Ud, Ud, Ud, Ud, Ud, Ud, Ud, Ud, Ud, Ud, Ud, Ud, Ud, Ud, Ud, Ud, Ud, Ud, Ud, Ud, Ud, Ud, Ud, Ud, Ud, Ud, Ud, Ud, Ud, Ud, Ud, Ud, Ud, Ud, Ud, Ud, Ud, Ud, Ud]) _
  refine q_is rfl rfl (does_assign (u := (Bo false)) (ev rfl)) (by dsimp only [List.set]; try rfl) ?_
  refine wpList_nil (hK14 _ _ ?_)
  refine wp_seq_k fun K22 hK22 => ?_
  refine wp_seq_k fun K23 hK23 => ?_
  obtain ⟨β1, hβ1⟩ : ∃ b : Bool, b = (finF (cf .f32 r7) && posF (cf .f32 r7)) := ⟨_, rfl⟩
  obtain ⟨β2, hβ2⟩ : ∃ b : Bool, b = ((!(finV A_g.low)) || (!β1)) := ⟨_, rfl⟩
  refine region_text (
    [Fact.pure [] (fun v => v = (Pt b15 0)),
    Fact.pure [6] (fun v => v = (.agg #[(Fl r1), (Fl r3), (Fl r5)])),
    Fact.pure [7] (fun v => v = (Bo (finV A_g.low))),
    Fact.pure [8] (fun v => v = (Bo (!(finV A_g.low)))),
    Fact.pure [9] (fun v => v = (Bo (!(finV A_g.low)))),
    Fact.pure [10] (fun v => (!(finV A_g.low)) = false → v = (Pt b15 3)),
    Fact.pure [11, 10] (fun v => (!(finV A_g.low)) = false → v = (Fl r7)),
    Fact.pure [12, 10] (fun v => (!(finV A_g.low)) = false → v = (Bo β1)),
    Fact.pure [13, 10] (fun v => (!(finV A_g.low)) = false → v = (Bo (!β1))),
    Fact.pure [10, 14] (fun v => v = (Bo β2))]) (by simp [Fact.pure, Fact.mem]) ?_
  refine RW_d _ rfl (fun v => by dsimp only [List.set]; try rfl) (fun u hu hF => ?_) (fun v24 => ?_)
  · clear hF
    refine doesG_un rfl ?_
    refine (does_fieldAddr (ev rfl) fa31_0).mono ?_; rintro _ _ ⟨rfl, rfl⟩
    exact ⟨rfl, Ext.refl _⟩
  refine RW_d _ rfl (fun v => by dsimp only [List.set]; try rfl) (fun u hu hF => ?_) (fun v25 => ?_)
  · have h6_ : v24 = (Pt b15 0) := hF.1
    clear hF
    refine doesG_un rfl ?_
    obtain rfl := h6_
    refine (does_loadAgg (cs := [(Fl r1), (Fl r3), (Fl r5)]) (ev rfl) Try.isAgg29 Try.sizeOf29 (Cells.sub (Blk.cells (hB17.ext hu)) 0 3) rfl).mono ?_; rintro _ _ ⟨rfl, rfl⟩
    exact ⟨rfl, Ext.refl _⟩
  refine RW_d _ rfl (fun v => by dsimp only [List.set]; try rfl) (fun u hu hF => ?_) (fun v26 => ?_)
  · have h7_ : v25 = (.agg #[(Fl r1), (Fl r3), (Fl r5)]) := hF.1
    clear hF
    refine doesG_un rfl ?_
    obtain rfl := h7_
    refine (does_call (args := #[(.agg #[(Fl r1), (Fl r3), (Fl r5)])]) cal50 (evs rfl) (c_impl_finiteVector [(Fl r1), (Fl r3), (Fl r5)] A_g.low _ ⟨r1, r3, r5, rfl, h2, h4, h6⟩)).mono ?_; rintro v u' ⟨hx, hv⟩
    exact ⟨hv, hx⟩
  refine RW_d _ rfl (fun v => by dsimp only [List.set]; try rfl) (fun u hu hF => ?_) (fun v27 => ?_)
  · have h8_ : v26 = (Bo (finV A_g.low)) := hF.1
    clear hF
    refine doesG_un rfl ?_
    obtain rfl := h8_
    refine (does_not (ev rfl)).mono ?_; rintro _ _ ⟨rfl, rfl⟩
    exact ⟨rfl, Ext.refl _⟩
  refine RW_d _ rfl (fun v => by dsimp only [List.set]; try rfl) (fun u hu hF => ?_) (fun v28 => ?_)
  · have h9_ : v27 = (Bo (!(finV A_g.low))) := hF.1
    clear hF
    refine doesG_un rfl ?_
    obtain rfl := h9_
    refine (does_move (u := (Bo (!(finV A_g.low)))) (ev rfl)).mono ?_; rintro _ _ ⟨rfl, rfl⟩
    exact ⟨rfl, Ext.refl _⟩
  refine RW_d _ rfl (fun v => by dsimp only [List.set]; try rfl) (fun u hu hF => ?_) (fun v29 => ?_)
  · have h10_ : v28 = (Bo (!(finV A_g.low))) := hF.1
    clear hF
    obtain rfl := h10_
    refine doesG_g (b := (!(finV A_g.low))) rfl (yld rfl rfl) (fun hg1 => ?_) (fun hc => ⟨fun hg1 => absurd hg1 hc, Ext.refl _⟩)
    refine (does_fieldAddr (ev rfl) fa31_1).mono ?_; rintro _ _ ⟨rfl, rfl⟩
    exact ⟨fun _ => rfl, Ext.refl _⟩
  refine RW_d _ rfl (fun v => by dsimp only [List.set]; try rfl) (fun u hu hF => ?_) (fun v30 => ?_)
  · have h11_ : (!(finV A_g.low)) = false → v29 = (Pt b15 3) := hF.1
    have h10_ : v28 = (Bo (!(finV A_g.low))) := hF.2.1
    clear hF
    obtain rfl := h10_
    refine doesG_g (b := (!(finV A_g.low))) rfl (yld rfl rfl) (fun hg1 => ?_) (fun hc => ⟨fun hg1 => absurd hg1 hc, Ext.refl _⟩)
    obtain rfl := h11_ hg1
    refine (does_load (u := (Fl r7)) (ev rfl) Try.isAgg22 (Cells.at (Blk.cells (hB17.ext hu)) 3 rfl)).mono ?_; rintro _ _ ⟨rfl, rfl⟩
    exact ⟨fun _ => rfl, Ext.refl _⟩
  refine RW_d _ rfl (fun v => by dsimp only [List.set]; try rfl) (fun u hu hF => ?_) (fun v31 => ?_)
  · have h12_ : (!(finV A_g.low)) = false → v30 = (Fl r7) := hF.1
    have h10_ : v28 = (Bo (!(finV A_g.low))) := hF.2.1
    clear hF
    obtain rfl := h10_
    refine doesG_g (b := (!(finV A_g.low))) rfl (yld rfl rfl) (fun hg1 => ?_) (fun hc => ⟨fun hg1 => absurd hg1 hc, Ext.refl _⟩)
    obtain rfl := h12_ hg1
    refine (does_call (args := #[(Fl r7)]) cal51 (evs rfl) (c_impl_stepOk r7 _)).mono ?_; rintro v u' ⟨hx, hv⟩
    exact ⟨fun _ => hv.trans (by simp only [hβ1]), hx⟩
  refine RW_d _ rfl (fun v => by dsimp only [List.set]; try rfl) (fun u hu hF => ?_) (fun v32 => ?_)
  · have h13_ : (!(finV A_g.low)) = false → v31 = (Bo β1) := hF.1
    have h10_ : v28 = (Bo (!(finV A_g.low))) := hF.2.1
    clear hF
    obtain rfl := h10_
    refine doesG_g (b := (!(finV A_g.low))) rfl (yld rfl rfl) (fun hg1 => ?_) (fun hc => ⟨fun hg1 => absurd hg1 hc, Ext.refl _⟩)
    obtain rfl := h13_ hg1
    refine (does_not (ev rfl)).mono ?_; rintro _ _ ⟨rfl, rfl⟩
    exact ⟨fun _ => rfl, Ext.refl _⟩
  refine RW_d _ rfl (fun v => by dsimp only [List.set]; try rfl) (fun u hu hF => ?_) (fun v33 => ?_)
  · have h10_ : v28 = (Bo (!(finV A_g.low))) := hF.1
    have h14_ : (!(finV A_g.low)) = false → v32 = (Bo (!β1)) := hF.2.1
    clear hF
    refine doesG_un rfl ?_
    skip
    obtain rfl := h10_
    refine (does_pick (b := (!(finV A_g.low))) (ev rfl) (ev rfl) (ev rfl)).mono ?_; rintro _ _ ⟨rfl, rfl⟩; refine ⟨?_, Ext.refl _⟩; rw [hβ2]; skip
    cases hbb : (!(finV A_g.low)) <;> simp [hbb] at h14_ ⊢
    all_goals (first | rfl | (subst h14_; rfl) | simp_all)
  refine RW_fin ?_; intro w34 E35 hP36
  obtain ⟨⟨⟨⟨⟨⟨⟨⟨⟨⟨-, -⟩, -⟩, -⟩, -⟩, -⟩, -⟩, -⟩, -⟩, -⟩, q37⟩ := hP36
  have X38 := Ext.gr X21 E35
  have q37 : v33 = (Bo β2) := q37
  obtain rfl := q37
  show wpList _ _ _ _ (fr [(.agg #[(Fl r1), (Fl r3), (Fl r5), (Fl r7), (Iv A_g.x), (Iv A_g.y), (Iv A_g.z), (.slice p11 A_g.vals.length q12)]), (Pt b15 0), (Bo false), Ud, Ud, Ud, v24, v25, v26, v27, v28, v29, v30, v31, v32, (Bo β2), Ud, Ud, Ud, Ud, Ud, Ud, Ud, Ud, Ud, Ud, Ud, Ud, Ud, Ud, Ud, Ud, Ud, Ud, Ud, Ud, Ud, Ud, Ud, Ud, Ud]) _
  refine wpList_nil (hK23 _ _ ?_)
  refine wp_cond_split (t := β2) (ev rfl) (fun c39 => ?_) (fun c39 => ?_)
  · have c39' := c39
    (try simp only [hβ1, hβ2] at c39')
    (try simp only [icmp, Bool.and_eq_true, Bool.or_eq_true, Bool.and_eq_false_iff, Bool.or_eq_false_iff, Bool.not_eq_true', Bool.not_eq_false', decide_eq_true_eq, decide_eq_false_iff_not, beq_iff_eq, bne_iff_ne, beq_eq_false_iff_ne, bne_eq_false_iff_eq] at c39')
    refine wp_seq_k fun K40 hK40 => ?_
    refine wp_region_lit ?_
    refine q_is rfl rfl (does_assign (u := (Bo false)) (ev rfl)) (by dsimp only [List.set]; try rfl) ?_
    refine wpList_nil (hK40 _ _ ?_)
    refine wp_ret ?_
    dsimp only [Exit.then, Exit.inBlock]
    refine ret_val (v := (Bo false)) (res_T rfl (slot rfl)) X38 ?_
    try simp only [h2, h4, h6, h8, hβ1, hβ2] at c39
    have x41 : (isGrid A_g) = false := by first | with_reducible rfl | (simp only [isGrid, cntOk, prod3, h2, h4, h6, h8, hβ1, hβ2, c39]; done) | (simp [isGrid, cntOk, prod3, h2, h4, h6, h8, hβ1, hβ2, c39]; done) | (revert c39; simp +contextual [isGrid, cntOk, prod3, h2, h4, h6, h8, hβ1, hβ2]; done) | (rcases c39' with hh | hh <;> simp only [hh, isGrid, cntOk, prod3, h2, h4, h6, h8, hβ1, hβ2, c39]; done) | (rcases c39' with hh | hh <;> simp_all [isGrid, cntOk, prod3]; done) | (rcases c39' with hh | hh | hh <;> simp_all [isGrid, cntOk, prod3]; done) | (rcases c39' with hh | hh | hh | hh <;> simp_all [isGrid, cntOk, prod3]; done) | (simp_all [isGrid, cntOk, prod3]; done) | rfl
    exact (by first | rfl | rw [x41])
  have c39' := c39
  (try simp only [hβ1, hβ2] at c39')
  (try simp only [icmp, Bool.and_eq_true, Bool.or_eq_true, Bool.and_eq_false_iff, Bool.or_eq_false_iff, Bool.not_eq_true', Bool.not_eq_false', decide_eq_true_eq, decide_eq_false_iff_not, beq_iff_eq, bne_iff_ne, beq_eq_false_iff_ne, bne_eq_false_iff_eq] at c39')
  refine wp_skip (hK22 _ _ ?_)
  refine wp_seq_k fun K42 hK42 => ?_
  refine wp_seq_k fun K43 hK43 => ?_
  refine wp_region_lit ?_
  refine seqd rfl rfl (does_call (args := #[(Pt b15 0)]) cal39 (evs rfl) (c_impl_Grid_counts b15 0 [(Fl r1), (Fl r3), (Fl r5), (Fl r7), (Iv A_g.x), (Iv A_g.y), (Iv A_g.z), (.slice p11 A_g.vals.length q12)] A_g _ (Blk.cells (hB17.ext E35)) ⟨r1, r3, r5, r7, (.slice p11 A_g.vals.length q12), rfl, h2, h4, h6, h8, (Sl.ext hs13 RF.mono X38)⟩)) ?_; rintro _ w45 ⟨E44, rfl⟩
  have X46 := Ext.gr X38 E44
  show wpList _ _ _ _ (fr [(.agg #[(Fl r1), (Fl r3), (Fl r5), (Fl r7), (Iv A_g.x), (Iv A_g.y), (Iv A_g.z), (.slice p11 A_g.vals.length q12)]), (Pt b15 0), (Bo false), Ud, Ud, Ud, v24, v25, v26, v27, v28, v29, v30, v31, v32, (Bo β2), (.agg #[(Iv A_g.x), (Iv A_g.y), (Iv A_g.z)]), Ud, Ud, Ud, Ud, Ud, Ud, Ud, Ud, Ud, Ud, Ud, Ud, Ud, Ud, Ud, Ud, Ud, Ud, Ud, Ud, Ud, Ud, Ud, Ud]) _
  refine q_is rfl rfl (does_move (u := (Iv 0)) (ev rfl)) (by dsimp only [List.set]; try rfl) ?_
  refine wpList_nil (hK43 _ _ ?_)
  refine wp_block ?_
  refine loop_unroll 4 ?_
  refine un_step ?_
  refine wp_seq_k fun K47 hK47 => ?_
  refine wp_region_lit ?_
  refine q_is rfl rfl (does_icmp (p := 0) (q := 3) (.inr (.inr (.inl rfl))) (ev rfl) (ev rfl)) (by dsimp only [List.set]; try rfl) ?_
  refine wpList_nil (hK47 _ _ ?_)
  refine wp_seq_k fun K48 hK48 => ?_
  refine wp_cond_true (ev rfl) ?_
  refine wp_skip (hK48 _ _ ?_)
  refine wp_seq_k fun K49 hK49 => ?_
  refine wp_block ?_
  refine wp_seq_k fun K50 hK50 => ?_
  refine wp_region_lit ?_
  refine q_is rfl rfl (does_index_run (r := (Iv A_g.x)) (ev rfl) (ev rfl) (fun w => ix55_0 _ _ _ w)) (by dsimp only [List.set]; try rfl) ?_
  refine q_is rfl rfl (does_assign (u := (Iv A_g.x)) (ev rfl)) (by dsimp only [List.set]; try rfl) ?_
  refine wpList_nil (hK50 _ _ ?_)
  refine wp_seq_k fun K51 hK51 => ?_
  refine wp_region_lit ?_
  refine q_is rfl rfl (does_move (u := (Iv A_g.x)) (ev rfl)) (by dsimp only [List.set]; try rfl) ?_
  refine seqd rfl rfl (does_call (args := #[(Iv A_g.x), (Iv 1), (Iv 16)]) cal40 (evs rfl) (c_impl_in A_g.x 1 16 _)) ?_; rintro _ w53 ⟨E52, rfl⟩
  have X54 := Ext.gr X46 E52
  show wpList _ _ _ _ (fr [(.agg #[(Fl r1), (Fl r3), (Fl r5), (Fl r7), (Iv A_g.x), (Iv A_g.y), (Iv A_g.z), (.slice p11 A_g.vals.length q12)]), (Pt b15 0), (Bo false), Ud, (Iv A_g.x), Ud, v24, v25, v26, v27, v28, v29, v30, v31, v32, (Bo β2), (.agg #[(Iv A_g.x), (Iv A_g.y), (Iv A_g.z)]), (Iv 0), (Bo true), (Iv A_g.x), (Iv A_g.x), (Bo (inI A_g.x 1 16)), Ud, Ud, Ud, Ud, Ud, Ud, Ud, Ud, Ud, Ud, Ud, Ud, Ud, Ud, Ud, Ud, Ud, Ud, Ud]) _
  refine q_is rfl rfl (does_not (ev rfl)) (by dsimp only [List.set]; try rfl) ?_
  refine wpList_nil (hK51 _ _ ?_)
  refine wp_cond_split (t := !(inI A_g.x 1 16)) (ev rfl) (fun c55 => ?_) (fun c55 => ?_)
  · rw [Bool.not_eq_true'] at c55
    have c55' := c55
    (try simp only [hβ1, hβ2] at c55')
    (try simp only [icmp, Bool.and_eq_true, Bool.or_eq_true, Bool.and_eq_false_iff, Bool.or_eq_false_iff, Bool.not_eq_true', Bool.not_eq_false', decide_eq_true_eq, decide_eq_false_iff_not, beq_iff_eq, bne_iff_ne, beq_eq_false_iff_ne, bne_eq_false_iff_eq] at c55')
    refine wp_seq_k fun K56 hK56 => ?_
    refine wp_region_lit ?_
    refine q_is rfl rfl (does_assign (u := (Bo false)) (ev rfl)) (by dsimp only [List.set]; try rfl) ?_
    refine wpList_nil (hK56 _ _ ?_)
    refine wp_ret ?_
    dsimp only [Exit.then, Exit.inBlock]
    refine ret_val (v := (Bo false)) (res_T rfl (slot rfl)) X54 ?_
    try simp only [h2, h4, h6, h8, hβ1, hβ2] at c39 c55
    have x57 : (isGrid A_g) = false := by first | with_reducible rfl | (simp only [isGrid, cntOk, prod3, h2, h4, h6, h8, hβ1, hβ2, c39, c55]; done) | (simp [isGrid, cntOk, prod3, h2, h4, h6, h8, hβ1, hβ2, c39, c55]; done) | (revert c39 c55; simp +contextual [isGrid, cntOk, prod3, h2, h4, h6, h8, hβ1, hβ2]; done) | (rcases c39' with hh | hh <;> simp only [hh, isGrid, cntOk, prod3, h2, h4, h6, h8, hβ1, hβ2, c39, c55]; done) | (rcases c55' with hh | hh <;> simp only [hh, isGrid, cntOk, prod3, h2, h4, h6, h8, hβ1, hβ2, c39, c55]; done) | (rcases c55' with hh | hh <;> simp_all [isGrid, cntOk, prod3]; done) | (rcases c55' with hh | hh | hh <;> simp_all [isGrid, cntOk, prod3]; done) | (rcases c55' with hh | hh | hh | hh <;> simp_all [isGrid, cntOk, prod3]; done) | (simp_all [isGrid, cntOk, prod3]; done) | rfl
    exact (by first | rfl | rw [x57])
  rw [Bool.not_eq_false'] at c55
  have c55' := c55
  (try simp only [hβ1, hβ2] at c55')
  (try simp only [icmp, Bool.and_eq_true, Bool.or_eq_true, Bool.and_eq_false_iff, Bool.or_eq_false_iff, Bool.not_eq_true', Bool.not_eq_false', decide_eq_true_eq, decide_eq_false_iff_not, beq_iff_eq, bne_iff_ne, beq_eq_false_iff_ne, bne_eq_false_iff_eq] at c55')
  refine wp_skip (hK49 _ _ ?_)
  refine wp_region_lit ?_
  refine q_is rfl rfl (does_iarith (p := 0) (q := 1) (r := (1)) (ev rfl) (ev rfl) (.inl ⟨rfl, rfl⟩)) (by dsimp only [List.set]; try rfl) ?_
  refine q_is rfl rfl (does_move (u := (Iv 1)) (ev rfl)) (by dsimp only [List.set]; try rfl) ?_
  refine wpList_nil ?_
  refine un_step ?_
  refine wp_seq_k fun K58 hK58 => ?_
  refine wp_region_lit ?_
  refine q_is rfl rfl (does_icmp (p := 1) (q := 3) (.inr (.inr (.inl rfl))) (ev rfl) (ev rfl)) (by dsimp only [List.set]; try rfl) ?_
  refine wpList_nil (hK58 _ _ ?_)
  refine wp_seq_k fun K59 hK59 => ?_
  refine wp_cond_true (ev rfl) ?_
  refine wp_skip (hK59 _ _ ?_)
  refine wp_seq_k fun K60 hK60 => ?_
  refine wp_block ?_
  refine wp_seq_k fun K61 hK61 => ?_
  refine wp_region_lit ?_
  refine q_is rfl rfl (does_index_run (r := (Iv A_g.y)) (ev rfl) (ev rfl) (fun w => ix55_1 _ _ _ w)) (by dsimp only [List.set]; try rfl) ?_
  refine q_is rfl rfl (does_assign (u := (Iv A_g.y)) (ev rfl)) (by dsimp only [List.set]; try rfl) ?_
  refine wpList_nil (hK61 _ _ ?_)
  refine wp_seq_k fun K62 hK62 => ?_
  refine wp_region_lit ?_
  refine q_is rfl rfl (does_move (u := (Iv A_g.y)) (ev rfl)) (by dsimp only [List.set]; try rfl) ?_
  refine seqd rfl rfl (does_call (args := #[(Iv A_g.y), (Iv 1), (Iv 16)]) cal40 (evs rfl) (c_impl_in A_g.y 1 16 _)) ?_; rintro _ w64 ⟨E63, rfl⟩
  have X65 := Ext.gr X54 E63
  show wpList _ _ _ _ (fr [(.agg #[(Fl r1), (Fl r3), (Fl r5), (Fl r7), (Iv A_g.x), (Iv A_g.y), (Iv A_g.z), (.slice p11 A_g.vals.length q12)]), (Pt b15 0), (Bo false), Ud, (Iv A_g.y), Ud, v24, v25, v26, v27, v28, v29, v30, v31, v32, (Bo β2), (.agg #[(Iv A_g.x), (Iv A_g.y), (Iv A_g.z)]), (Iv 1), (Bo true), (Iv A_g.y), (Iv A_g.y), (Bo (inI A_g.y 1 16)), (Bo (!(inI A_g.x 1 16))), (Iv 1), Ud, Ud, Ud, Ud, Ud, Ud, Ud, Ud, Ud, Ud, Ud, Ud, Ud, Ud, Ud, Ud, Ud]) _
  refine q_is rfl rfl (does_not (ev rfl)) (by dsimp only [List.set]; try rfl) ?_
  refine wpList_nil (hK62 _ _ ?_)
  refine wp_cond_split (t := !(inI A_g.y 1 16)) (ev rfl) (fun c66 => ?_) (fun c66 => ?_)
  · rw [Bool.not_eq_true'] at c66
    have c66' := c66
    (try simp only [hβ1, hβ2] at c66')
    (try simp only [icmp, Bool.and_eq_true, Bool.or_eq_true, Bool.and_eq_false_iff, Bool.or_eq_false_iff, Bool.not_eq_true', Bool.not_eq_false', decide_eq_true_eq, decide_eq_false_iff_not, beq_iff_eq, bne_iff_ne, beq_eq_false_iff_ne, bne_eq_false_iff_eq] at c66')
    refine wp_seq_k fun K67 hK67 => ?_
    refine wp_region_lit ?_
    refine q_is rfl rfl (does_assign (u := (Bo false)) (ev rfl)) (by dsimp only [List.set]; try rfl) ?_
    refine wpList_nil (hK67 _ _ ?_)
    refine wp_ret ?_
    dsimp only [Exit.then, Exit.inBlock]
    refine ret_val (v := (Bo false)) (res_T rfl (slot rfl)) X65 ?_
    try simp only [h2, h4, h6, h8, hβ1, hβ2] at c39 c55 c66
    have x68 : (isGrid A_g) = false := by first | with_reducible rfl | (simp only [isGrid, cntOk, prod3, h2, h4, h6, h8, hβ1, hβ2, c39, c55, c66]; done) | (simp [isGrid, cntOk, prod3, h2, h4, h6, h8, hβ1, hβ2, c39, c55, c66]; done) | (revert c39 c55 c66; simp +contextual [isGrid, cntOk, prod3, h2, h4, h6, h8, hβ1, hβ2]; done) | (rcases c39' with hh | hh <;> simp only [hh, isGrid, cntOk, prod3, h2, h4, h6, h8, hβ1, hβ2, c39, c55, c66]; done) | (rcases c55' with hh | hh <;> simp only [hh, isGrid, cntOk, prod3, h2, h4, h6, h8, hβ1, hβ2, c39, c55, c66]; done) | (rcases c66' with hh | hh <;> simp only [hh, isGrid, cntOk, prod3, h2, h4, h6, h8, hβ1, hβ2, c39, c55, c66]; done) | (rcases c66' with hh | hh <;> simp_all [isGrid, cntOk, prod3]; done) | (rcases c66' with hh | hh | hh <;> simp_all [isGrid, cntOk, prod3]; done) | (rcases c66' with hh | hh | hh | hh <;> simp_all [isGrid, cntOk, prod3]; done) | (simp_all [isGrid, cntOk, prod3]; done) | rfl
    exact (by first | rfl | rw [x68])
  rw [Bool.not_eq_false'] at c66
  have c66' := c66
  (try simp only [hβ1, hβ2] at c66')
  (try simp only [icmp, Bool.and_eq_true, Bool.or_eq_true, Bool.and_eq_false_iff, Bool.or_eq_false_iff, Bool.not_eq_true', Bool.not_eq_false', decide_eq_true_eq, decide_eq_false_iff_not, beq_iff_eq, bne_iff_ne, beq_eq_false_iff_ne, bne_eq_false_iff_eq] at c66')
  refine wp_skip (hK60 _ _ ?_)
  refine wp_region_lit ?_
  refine q_is rfl rfl (does_iarith (p := 1) (q := 1) (r := (2)) (ev rfl) (ev rfl) (.inl ⟨rfl, rfl⟩)) (by dsimp only [List.set]; try rfl) ?_
  refine q_is rfl rfl (does_move (u := (Iv 2)) (ev rfl)) (by dsimp only [List.set]; try rfl) ?_
  refine wpList_nil ?_
  refine un_step ?_
  refine wp_seq_k fun K69 hK69 => ?_
  refine wp_region_lit ?_
  refine q_is rfl rfl (does_icmp (p := 2) (q := 3) (.inr (.inr (.inl rfl))) (ev rfl) (ev rfl)) (by dsimp only [List.set]; try rfl) ?_
  refine wpList_nil (hK69 _ _ ?_)
  refine wp_seq_k fun K70 hK70 => ?_
  refine wp_cond_true (ev rfl) ?_
  refine wp_skip (hK70 _ _ ?_)
  refine wp_seq_k fun K71 hK71 => ?_
  refine wp_block ?_
  refine wp_seq_k fun K72 hK72 => ?_
  refine wp_region_lit ?_
  refine q_is rfl rfl (does_index_run (r := (Iv A_g.z)) (ev rfl) (ev rfl) (fun w => ix55_2 _ _ _ w)) (by dsimp only [List.set]; try rfl) ?_
  refine q_is rfl rfl (does_assign (u := (Iv A_g.z)) (ev rfl)) (by dsimp only [List.set]; try rfl) ?_
  refine wpList_nil (hK72 _ _ ?_)
  refine wp_seq_k fun K73 hK73 => ?_
  refine wp_region_lit ?_
  refine q_is rfl rfl (does_move (u := (Iv A_g.z)) (ev rfl)) (by dsimp only [List.set]; try rfl) ?_
  refine seqd rfl rfl (does_call (args := #[(Iv A_g.z), (Iv 1), (Iv 16)]) cal40 (evs rfl) (c_impl_in A_g.z 1 16 _)) ?_; rintro _ w75 ⟨E74, rfl⟩
  have X76 := Ext.gr X65 E74
  show wpList _ _ _ _ (fr [(.agg #[(Fl r1), (Fl r3), (Fl r5), (Fl r7), (Iv A_g.x), (Iv A_g.y), (Iv A_g.z), (.slice p11 A_g.vals.length q12)]), (Pt b15 0), (Bo false), Ud, (Iv A_g.z), Ud, v24, v25, v26, v27, v28, v29, v30, v31, v32, (Bo β2), (.agg #[(Iv A_g.x), (Iv A_g.y), (Iv A_g.z)]), (Iv 2), (Bo true), (Iv A_g.z), (Iv A_g.z), (Bo (inI A_g.z 1 16)), (Bo (!(inI A_g.y 1 16))), (Iv 2), Ud, Ud, Ud, Ud, Ud, Ud, Ud, Ud, Ud, Ud, Ud, Ud, Ud, Ud, Ud, Ud, Ud]) _
  refine q_is rfl rfl (does_not (ev rfl)) (by dsimp only [List.set]; try rfl) ?_
  refine wpList_nil (hK73 _ _ ?_)
  refine wp_cond_split (t := !(inI A_g.z 1 16)) (ev rfl) (fun c77 => ?_) (fun c77 => ?_)
  · rw [Bool.not_eq_true'] at c77
    have c77' := c77
    (try simp only [hβ1, hβ2] at c77')
    (try simp only [icmp, Bool.and_eq_true, Bool.or_eq_true, Bool.and_eq_false_iff, Bool.or_eq_false_iff, Bool.not_eq_true', Bool.not_eq_false', decide_eq_true_eq, decide_eq_false_iff_not, beq_iff_eq, bne_iff_ne, beq_eq_false_iff_ne, bne_eq_false_iff_eq] at c77')
    refine wp_seq_k fun K78 hK78 => ?_
    refine wp_region_lit ?_
    refine q_is rfl rfl (does_assign (u := (Bo false)) (ev rfl)) (by dsimp only [List.set]; try rfl) ?_
    refine wpList_nil (hK78 _ _ ?_)
    refine wp_ret ?_
    dsimp only [Exit.then, Exit.inBlock]
    refine ret_val (v := (Bo false)) (res_T rfl (slot rfl)) X76 ?_
    try simp only [h2, h4, h6, h8, hβ1, hβ2] at c39 c55 c66 c77
    have x79 : (isGrid A_g) = false := by first | with_reducible rfl | (simp only [isGrid, cntOk, prod3, h2, h4, h6, h8, hβ1, hβ2, c39, c55, c66, c77]; done) | (simp [isGrid, cntOk, prod3, h2, h4, h6, h8, hβ1, hβ2, c39, c55, c66, c77]; done) | (revert c39 c55 c66 c77; simp +contextual [isGrid, cntOk, prod3, h2, h4, h6, h8, hβ1, hβ2]; done) | (rcases c39' with hh | hh <;> simp only [hh, isGrid, cntOk, prod3, h2, h4, h6, h8, hβ1, hβ2, c39, c55, c66, c77]; done) | (rcases c55' with hh | hh <;> simp only [hh, isGrid, cntOk, prod3, h2, h4, h6, h8, hβ1, hβ2, c39, c55, c66, c77]; done) | (rcases c66' with hh | hh <;> simp only [hh, isGrid, cntOk, prod3, h2, h4, h6, h8, hβ1, hβ2, c39, c55, c66, c77]; done) | (rcases c77' with hh | hh <;> simp only [hh, isGrid, cntOk, prod3, h2, h4, h6, h8, hβ1, hβ2, c39, c55, c66, c77]; done) | (rcases c77' with hh | hh <;> simp_all [isGrid, cntOk, prod3]; done) | (rcases c77' with hh | hh | hh <;> simp_all [isGrid, cntOk, prod3]; done) | (rcases c77' with hh | hh | hh | hh <;> simp_all [isGrid, cntOk, prod3]; done) | (simp_all [isGrid, cntOk, prod3]; done) | rfl
    exact (by first | rfl | rw [x79])
  rw [Bool.not_eq_false'] at c77
  have c77' := c77
  (try simp only [hβ1, hβ2] at c77')
  (try simp only [icmp, Bool.and_eq_true, Bool.or_eq_true, Bool.and_eq_false_iff, Bool.or_eq_false_iff, Bool.not_eq_true', Bool.not_eq_false', decide_eq_true_eq, decide_eq_false_iff_not, beq_iff_eq, bne_iff_ne, beq_eq_false_iff_ne, bne_eq_false_iff_eq] at c77')
  refine wp_skip (hK71 _ _ ?_)
  refine wp_region_lit ?_
  refine q_is rfl rfl (does_iarith (p := 2) (q := 1) (r := (3)) (ev rfl) (ev rfl) (.inl ⟨rfl, rfl⟩)) (by dsimp only [List.set]; try rfl) ?_
  refine q_is rfl rfl (does_move (u := (Iv 3)) (ev rfl)) (by dsimp only [List.set]; try rfl) ?_
  refine wpList_nil ?_
  refine un_step ?_
  refine wp_seq_k fun K80 hK80 => ?_
  refine wp_region_lit ?_
  refine q_is rfl rfl (does_icmp (p := 3) (q := 3) (.inr (.inr (.inl rfl))) (ev rfl) (ev rfl)) (by dsimp only [List.set]; try rfl) ?_
  refine wpList_nil (hK80 _ _ ?_)
  refine wp_seq_k fun K81 hK81 => ?_
  refine wp_cond_false (ev rfl) ?_
  refine wp_exit ?_
  refine hK42 _ _ ?_
  refine wp_seq_k fun K82 hK82 => ?_
  refine wp_region_lit ?_
  refine q_is rfl rfl (does_fieldAddr (ev rfl) fa31_2) (by dsimp only [List.set]; try rfl) ?_
  refine q_is rfl rfl (does_load (u := (Iv A_g.x)) (ev rfl) Try.isAgg2 (Cells.at (Blk.cells (((((hB17.ext E35).ext E44).ext E52).ext E63).ext E74)) 4 rfl)) (by dsimp only [List.set]; try rfl) ?_
  refine q_is rfl rfl (does_fieldAddr (ev rfl) fa31_3) (by dsimp only [List.set]; try rfl) ?_
  refine q_is rfl rfl (does_load (u := (Iv A_g.y)) (ev rfl) Try.isAgg2 (Cells.at (Blk.cells (((((hB17.ext E35).ext E44).ext E52).ext E63).ext E74)) 5 rfl)) (by dsimp only [List.set]; try rfl) ?_
  refine q_is rfl rfl (does_iarith (p := A_g.x) (q := A_g.y) (r := IntKind.i64.wrap (A_g.x * A_g.y)) (ev rfl) (ev rfl) (.inr (.inr ⟨rfl, rfl⟩))) (by dsimp only [List.set]; try rfl) ?_
  refine q_is rfl rfl (does_fieldAddr (ev rfl) fa31_4) (by dsimp only [List.set]; try rfl) ?_
  refine q_is rfl rfl (does_load (u := (Iv A_g.z)) (ev rfl) Try.isAgg2 (Cells.at (Blk.cells (((((hB17.ext E35).ext E44).ext E52).ext E63).ext E74)) 6 rfl)) (by dsimp only [List.set]; try rfl) ?_
  refine q_is rfl rfl (does_iarith (p := IntKind.i64.wrap (A_g.x * A_g.y)) (q := A_g.z) (r := IntKind.i64.wrap ((IntKind.i64.wrap (A_g.x * A_g.y)) * A_g.z)) (ev rfl) (ev rfl) (.inr (.inr ⟨rfl, rfl⟩))) (by dsimp only [List.set]; try rfl) ?_
  refine q_is rfl rfl (does_assign (u := (Iv (IntKind.i64.wrap ((IntKind.i64.wrap (A_g.x * A_g.y)) * A_g.z)))) (ev rfl)) (by dsimp only [List.set]; try rfl) ?_
  refine wpList_nil (hK82 _ _ ?_)
  refine wp_seq_k fun K83 hK83 => ?_
  obtain ⟨β3, hβ3⟩ : ∃ b : Bool, b = (icmp .leq (IntKind.i64.wrap ((IntKind.i64.wrap (A_g.x * A_g.y)) * A_g.z)) 1024) := ⟨_, rfl⟩
  obtain ⟨β4, hβ4⟩ : ∃ b : Bool, b = (icmp .eql (A_g.vals.length : Int) (IntKind.i64.wrap ((IntKind.i64.wrap (A_g.x * A_g.y)) * A_g.z))) := ⟨_, rfl⟩
  refine region_text (
    [Fact.pure [] (fun v => v = (Iv (IntKind.i64.wrap ((IntKind.i64.wrap (A_g.x * A_g.y)) * A_g.z)))),
    Fact.pure [32] (fun v => v = (Bo β3)),
    Fact.pure [33] (fun v => v = (Bo β3)),
    Fact.pure [34] (fun v => β3 = true → v = (Pt b15 7)),
    Fact.pure [35, 34] (fun v => β3 = true → v = (.slice p11 A_g.vals.length q12)),
    Fact.pure [36, 34] (fun v => β3 = true → v = (Iv (A_g.vals.length : Int))),
    Fact.pure [34] (fun v => β3 = true → v = (Iv (IntKind.i64.wrap ((IntKind.i64.wrap (A_g.x * A_g.y)) * A_g.z)))),
    Fact.pure [37, 38, 34] (fun v => β3 = true → v = (Bo β4)),
    Fact.pure [34, 39] (fun v => v = (Bo (β3 && β4)))]) (by simp [Fact.pure, Fact.mem]) ?_
  refine RW_d _ rfl (fun v => by dsimp only [List.set]; try rfl) (fun u hu hF => ?_) (fun v84 => ?_)
  · clear hF
    refine doesG_un rfl ?_
    refine (does_move (u := (Iv (IntKind.i64.wrap ((IntKind.i64.wrap (A_g.x * A_g.y)) * A_g.z)))) (ev rfl)).mono ?_; rintro _ _ ⟨rfl, rfl⟩
    exact ⟨rfl, Ext.refl _⟩
  refine RW_d _ rfl (fun v => by dsimp only [List.set]; try rfl) (fun u hu hF => ?_) (fun v85 => ?_)
  · have h32_ : v84 = (Iv (IntKind.i64.wrap ((IntKind.i64.wrap (A_g.x * A_g.y)) * A_g.z))) := hF.1
    clear hF
    refine doesG_un rfl ?_
    obtain rfl := h32_
    refine (does_icmp (p := IntKind.i64.wrap ((IntKind.i64.wrap (A_g.x * A_g.y)) * A_g.z)) (q := 1024) (.inr (.inr (.inr (.inl rfl)))) (ev rfl) (ev rfl)).mono ?_; rintro _ _ ⟨rfl, rfl⟩
    exact ⟨(by first | rfl | (show _ = _; simp only [hβ3])), Ext.refl _⟩
  refine RW_d _ rfl (fun v => by dsimp only [List.set]; try rfl) (fun u hu hF => ?_) (fun v86 => ?_)
  · have h33_ : v85 = (Bo β3) := hF.1
    clear hF
    refine doesG_un rfl ?_
    obtain rfl := h33_
    refine (does_move (u := (Bo β3)) (ev rfl)).mono ?_; rintro _ _ ⟨rfl, rfl⟩
    exact ⟨rfl, Ext.refl _⟩
  refine RW_d _ rfl (fun v => by dsimp only [List.set]; try rfl) (fun u hu hF => ?_) (fun v87 => ?_)
  · have h34_ : v86 = (Bo β3) := hF.1
    clear hF
    obtain rfl := h34_
    refine doesG_g (b := β3) rfl (yld rfl rfl) (fun hg1 => ?_) (fun hc => ⟨fun hg1 => absurd hg1 hc, Ext.refl _⟩)
    refine (does_fieldAddr (ev rfl) fa31_5).mono ?_; rintro _ _ ⟨rfl, rfl⟩
    exact ⟨fun _ => rfl, Ext.refl _⟩
  refine RW_d _ rfl (fun v => by dsimp only [List.set]; try rfl) (fun u hu hF => ?_) (fun v88 => ?_)
  · have h35_ : β3 = true → v87 = (Pt b15 7) := hF.1
    have h34_ : v86 = (Bo β3) := hF.2.1
    clear hF
    obtain rfl := h34_
    refine doesG_g (b := β3) rfl (yld rfl rfl) (fun hg1 => ?_) (fun hc => ⟨fun hg1 => absurd hg1 hc, Ext.refl _⟩)
    obtain rfl := h35_ hg1
    refine (does_load (u := (.slice p11 A_g.vals.length q12)) (ev rfl) Try.isAgg25 (Cells.at (Blk.cells ((((((hB17.ext E35).ext E44).ext E52).ext E63).ext E74).ext hu)) 7 rfl)).mono ?_; rintro _ _ ⟨rfl, rfl⟩
    exact ⟨fun _ => rfl, Ext.refl _⟩
  refine RW_d _ rfl (fun v => by dsimp only [List.set]; try rfl) (fun u hu hF => ?_) (fun v89 => ?_)
  · have h36_ : β3 = true → v88 = (.slice p11 A_g.vals.length q12) := hF.1
    have h34_ : v86 = (Bo β3) := hF.2.1
    clear hF
    obtain rfl := h34_
    refine doesG_g (b := β3) rfl (yld rfl rfl) (fun hg1 => ?_) (fun hc => ⟨fun hg1 => absurd hg1 hc, Ext.refl _⟩)
    obtain rfl := h36_ hg1
    refine (does_len_slice Try.underlying25 (ev rfl)).mono ?_; rintro _ _ ⟨rfl, rfl⟩
    exact ⟨fun _ => rfl, Ext.refl _⟩
  refine RW_d _ rfl (fun v => by dsimp only [List.set]; try rfl) (fun u hu hF => ?_) (fun v90 => ?_)
  · have h34_ : v86 = (Bo β3) := hF.1
    clear hF
    obtain rfl := h34_
    refine doesG_g (b := β3) rfl (yld rfl rfl) (fun hg1 => ?_) (fun hc => ⟨fun hg1 => absurd hg1 hc, Ext.refl _⟩)
    refine (does_move (u := (Iv (IntKind.i64.wrap ((IntKind.i64.wrap (A_g.x * A_g.y)) * A_g.z)))) (ev rfl)).mono ?_; rintro _ _ ⟨rfl, rfl⟩
    exact ⟨fun _ => rfl, Ext.refl _⟩
  refine RW_d _ rfl (fun v => by dsimp only [List.set]; try rfl) (fun u hu hF => ?_) (fun v91 => ?_)
  · have h37_ : β3 = true → v89 = (Iv (A_g.vals.length : Int)) := hF.1
    have h38_ : β3 = true → v90 = (Iv (IntKind.i64.wrap ((IntKind.i64.wrap (A_g.x * A_g.y)) * A_g.z))) := hF.2.1
    have h34_ : v86 = (Bo β3) := hF.2.2.1
    clear hF
    obtain rfl := h34_
    refine doesG_g (b := β3) rfl (yld rfl rfl) (fun hg1 => ?_) (fun hc => ⟨fun hg1 => absurd hg1 hc, Ext.refl _⟩)
    obtain rfl := h37_ hg1
    obtain rfl := h38_ hg1
    refine (does_icmp (p := (A_g.vals.length : Int)) (q := IntKind.i64.wrap ((IntKind.i64.wrap (A_g.x * A_g.y)) * A_g.z)) (.inl rfl) (ev rfl) (ev rfl)).mono ?_; rintro _ _ ⟨rfl, rfl⟩
    exact ⟨fun _ => (by first | rfl | (show _ = _; simp only [hβ4])), Ext.refl _⟩
  refine RW_d _ rfl (fun v => by dsimp only [List.set]; try rfl) (fun u hu hF => ?_) (fun v92 => ?_)
  · have h34_ : v86 = (Bo β3) := hF.1
    have h39_ : β3 = true → v91 = (Bo β4) := hF.2.1
    clear hF
    refine doesG_un rfl ?_
    skip
    obtain rfl := h34_
    refine (does_pick (b := β3) (ev rfl) (ev rfl) (ev rfl)).mono ?_; rintro _ _ ⟨rfl, rfl⟩; refine ⟨?_, Ext.refl _⟩; skip
    cases hbb : β3 <;> simp [hbb] at h39_ ⊢
    all_goals (first | rfl | (subst h39_; rfl) | simp_all)
  refine RW_fin ?_; intro w93 E94 hP95
  obtain ⟨⟨⟨⟨⟨⟨⟨⟨⟨-, -⟩, -⟩, -⟩, -⟩, -⟩, -⟩, -⟩, -⟩, q96⟩ := hP95
  have X97 := Ext.gr X76 E94
  have q96 : v92 = (Bo (β3 && β4)) := q96
  obtain rfl := q96
  show wpList _ _ _ _ (fr [(.agg #[(Fl r1), (Fl r3), (Fl r5), (Fl r7), (Iv A_g.x), (Iv A_g.y), (Iv A_g.z), (.slice p11 A_g.vals.length q12)]), (Pt b15 0), (Bo false), Ud, (Iv A_g.z), (Iv (IntKind.i64.wrap ((IntKind.i64.wrap (A_g.x * A_g.y)) * A_g.z))), v24, v25, v26, v27, v28, v29, v30, v31, v32, (Bo β2), (.agg #[(Iv A_g.x), (Iv A_g.y), (Iv A_g.z)]), (Iv 3), (Bo false), (Iv A_g.z), (Iv A_g.z), (Bo (inI A_g.z 1 16)), (Bo (!(inI A_g.z 1 16))), (Iv 3), (Pt b15 4), (Iv A_g.x), (Pt b15 5), (Iv A_g.y), (Iv (IntKind.i64.wrap (A_g.x * A_g.y))), (Pt b15 6), (Iv A_g.z), (Iv (IntKind.i64.wrap ((IntKind.i64.wrap (A_g.x * A_g.y)) * A_g.z))), v84, v85, v86, v87, v88, v89, v90, v91, (Bo (β3 && β4))]) _
  refine q_is rfl rfl (does_assign (u := (Bo (β3 && β4))) (ev rfl)) (by dsimp only [List.set]; try rfl) ?_
  refine wpList_nil (hK83 _ _ ?_)
  refine wp_ret ?_
  refine ret_val (v := (Bo (β3 && β4))) (res_T rfl (slot rfl)) X97 ?_
  try simp only [h2, h4, h6, h8, hβ1, hβ2, hβ3, hβ4] at c39 c55 c66 c77
  have x98 : (isGrid A_g) = (β3 && β4) := by first | with_reducible rfl | (simp only [isGrid, cntOk, prod3, h2, h4, h6, h8, hβ1, hβ2, hβ3, hβ4, c39, c55, c66, c77]; done) | (simp [isGrid, cntOk, prod3, h2, h4, h6, h8, hβ1, hβ2, hβ3, hβ4, c39, c55, c66, c77]; done) | (revert c39 c55 c66 c77; simp +contextual [isGrid, cntOk, prod3, h2, h4, h6, h8, hβ1, hβ2, hβ3, hβ4]; done) | (rcases c39' with hh | hh <;> simp only [hh, isGrid, cntOk, prod3, h2, h4, h6, h8, hβ1, hβ2, hβ3, hβ4, c39, c55, c66, c77]; done) | (rcases c55' with hh | hh <;> simp only [hh, isGrid, cntOk, prod3, h2, h4, h6, h8, hβ1, hβ2, hβ3, hβ4, c39, c55, c66, c77]; done) | (rcases c66' with hh | hh <;> simp only [hh, isGrid, cntOk, prod3, h2, h4, h6, h8, hβ1, hβ2, hβ3, hβ4, c39, c55, c66, c77]; done) | (rcases c77' with hh | hh <;> simp only [hh, isGrid, cntOk, prod3, h2, h4, h6, h8, hβ1, hβ2, hβ3, hβ4, c39, c55, c66, c77]; done) | (rcases c77' with hh | hh <;> simp_all [isGrid, cntOk, prod3]; done) | (rcases c77' with hh | hh | hh <;> simp_all [isGrid, cntOk, prod3]; done) | (rcases c77' with hh | hh | hh | hh <;> simp_all [isGrid, cntOk, prod3]; done) | (simp_all [isGrid, cntOk, prod3]; done) | rfl
  exact (by first | rfl | rw [x98])

/- (*impl.Grid).index -/
theorem c_impl_Grid_index (g_b : Nat) (g_o : Nat) (g : List Value) (A_g : GridT) (x : Int) (y : Int) (z : Int) (w : World) (hc_g : Cells w g_b g_o g) (hv_g : RGridT w A_g g) : Gives Try.prog 52 #[(Pt g_b g_o), (.agg #[(Iv x), (Iv y), (Iv z)])] w (fun v w' => v = (Iv (idxG A_g x y z))) := by
  obtain ⟨r1, r3, r5, r7, y9, rfl, h2, h4, h6, h8, h10⟩ := hv_g
  have hs13 := h10; have hs13l := Sl.len h10; obtain ⟨p11, q12, rfl⟩ := Sl.shape h10
  refine enter [(Pt g_b g_o), (.agg #[(Iv x), (Iv y), (Iv z)]), Ud, Ud, Ud, Ud, Ud, Ud, Ud, Ud, Ud, Ud, Ud, Ud, Ud, Ud, Ud, Ud, Ud, Ud, Ud, Ud, Ud] Try.func52 rfl Try.ntmps52 rfl ?_
  refine wp_seq_k fun K14 hK14 => ?_
  refine wp_region_lit ?_
  refine seqd rfl rfl (does_box (u := (.agg #[(Iv x), (Iv y), (Iv z)])) (ev rfl)) ?_; rintro _ w19 ⟨b15, rfl, hb16, hB17, E18⟩
  have n20 : g_b < b15 := Nat.lt_of_lt_of_le (cell_lt (Cells.at hc_g 0 rfl)) hb16
  have g21 : w.heap.size ≤ b15 := Nat.le_trans (Below.size (Ext.refl w)) hb16
  change Blk _ _ [(Iv x), (Iv y), (Iv z)] at hB17
  have X22 := Ext.gr (Ext.refl w) E18
  show wpList _ _ _ _ (fr [(Pt g_b g_o), (.agg #[(Iv x), (Iv y), (Iv z)]), Ud, (Pt b15 0), Ud, Ud, Ud, Ud, Ud, Ud, Ud, Ud, Ud, Ud, Ud, Ud, Ud, Ud, Ud, Ud, Ud, Ud, Ud]) _
  refine q_is (l' := [(Pt g_b g_o), (.agg #[(Iv x), (Iv y), (Iv z)]), Ud, (Pt b15 0), (Iv 0), Ud, Ud, Ud, Ud, Ud, Ud, Ud, Ud, Ud, Ud, Ud, Ud, Ud, Ud, Ud, Ud, Ud, Ud]) rfl rfl (does_assign (u := (Iv 0)) (ev rfl)) rfl ?_
  refine wpList_nil (hK14 _ _ ?_)
  refine wp_seq_k fun K23 hK23 => ?_
  refine region_draw (
    [Fact.pure [] (fun v => v = (Pt b15 0)),
    Fact.pure [5] (fun v => v = (Iv x)),
    Fact.pure [] (fun v => v = (Pt g_b g_o)),
    Fact.pure [7] (fun v => v = (Pt g_b g_o)),
    Fact.pure [8] (fun v => v = (Pt g_b (g_o + 4))),
    Fact.pure [9] (fun v => v = (Iv A_g.x)),
    Fact.pure [] (fun v => v = (Pt b15 1)),
    Fact.pure [11] (fun v => v = (Iv y)),
    Fact.pure [] (fun v => v = (Pt g_b g_o)),
    Fact.pure [13] (fun v => v = (Pt g_b g_o)),
    Fact.pure [14] (fun v => v = (Pt g_b (g_o + 5))),
    Fact.pure [15] (fun v => v = (Iv A_g.y)),
    Fact.pure [] (fun v => v = (Pt b15 2)),
    Fact.pure [17] (fun v => v = (Iv z)),
    Fact.pure [16, 18] (fun v => v = (Iv (IntKind.i64.wrap (A_g.y * z)))),
    Fact.pure [12, 19] (fun v => v = (Iv (IntKind.i64.wrap (y + (IntKind.i64.wrap (A_g.y * z)))))),
    Fact.pure [10, 20] (fun v => v = (Iv (IntKind.i64.wrap (A_g.x * (IntKind.i64.wrap (y + (IntKind.i64.wrap (A_g.y * z)))))))),
    Fact.pure [6, 21] (fun v => v = (Iv (IntKind.i64.wrap (x + (IntKind.i64.wrap (A_g.x * (IntKind.i64.wrap (y + (IntKind.i64.wrap (A_g.y * z))))))))))]) mixed (by kernel_rfl) (by intro _ _ d _ _ h; cases d <;> exact h) ?_
  obtain ⟨w24, hw26⟩ : ∃ w', w' = World.drew w19 := ⟨_, rfl⟩; rw [← hw26]; have E25 : Ext w19 w24 := by rw [hw26]; exact Ext.draw _
  clear hw26
  have X27 := Ext.gr X22 E25
  refine RW_d (fun v28 => [(Pt g_b g_o), (.agg #[(Iv x), (Iv y), (Iv z)]), Ud, (Pt b15 0), (Iv 0), v28, Ud, Ud, Ud, Ud, Ud, Ud, Ud, Ud, Ud, Ud, Ud, Ud, Ud, Ud, Ud, Ud, Ud]) rfl (fun _ => rfl) (fun u hu hF => ?_) (fun v28 => ?_)
  · clear hF
    refine doesG_un rfl ?_
    refine (does_indexAt_run (r := (Pt b15 0)) (ev rfl) (ev rfl) (fun w => ia55_0 _ _ w)).mono ?_; rintro _ _ ⟨rfl, rfl⟩
    exact ⟨rfl, Ext.refl _⟩
  refine RW_d (fun v29 => [(Pt g_b g_o), (.agg #[(Iv x), (Iv y), (Iv z)]), Ud, (Pt b15 0), (Iv 0), v28, v29, Ud, Ud, Ud, Ud, Ud, Ud, Ud, Ud, Ud, Ud, Ud, Ud, Ud, Ud, Ud, Ud]) rfl (fun _ => rfl) (fun u hu hF => ?_) (fun v29 => ?_)
  · have h5_ : v28 = (Pt b15 0) := hF.1
    clear hF
    refine doesG_un rfl ?_
    obtain rfl := h5_
    refine (does_load (u := (Iv x)) (ev rfl) Try.isAgg2 (Cells.at (Blk.cells ((hB17.ext E25).ext hu)) 0 rfl)).mono ?_; rintro _ _ ⟨rfl, rfl⟩
    exact ⟨rfl, Ext.refl _⟩
  refine RW_d (fun v30 => [(Pt g_b g_o), (.agg #[(Iv x), (Iv y), (Iv z)]), Ud, (Pt b15 0), (Iv 0), v28, v29, v30, Ud, Ud, Ud, Ud, Ud, Ud, Ud, Ud, Ud, Ud, Ud, Ud, Ud, Ud, Ud]) rfl (fun _ => rfl) (fun u hu hF => ?_) (fun v30 => ?_)
  · clear hF
    refine doesG_un rfl ?_
    refine (does_move (u := (Pt g_b g_o)) (ev rfl)).mono ?_; rintro _ _ ⟨rfl, rfl⟩
    exact ⟨rfl, Ext.refl _⟩
  refine RW_d (fun v31 => [(Pt g_b g_o), (.agg #[(Iv x), (Iv y), (Iv z)]), Ud, (Pt b15 0), (Iv 0), v28, v29, v30, v31, Ud, Ud, Ud, Ud, Ud, Ud, Ud, Ud, Ud, Ud, Ud, Ud, Ud, Ud]) rfl (fun _ => rfl) (fun u hu hF => ?_) (fun v31 => ?_)
  · have h7_ : v30 = (Pt g_b g_o) := hF.1
    clear hF
    refine doesG_un rfl ?_
    obtain rfl := h7_
    refine (does_nilCheck (ev rfl)).mono ?_; rintro _ _ ⟨rfl, rfl⟩
    exact ⟨rfl, Ext.refl _⟩
  refine RW_d (fun v32 => [(Pt g_b g_o), (.agg #[(Iv x), (Iv y), (Iv z)]), Ud, (Pt b15 0), (Iv 0), v28, v29, v30, v31, v32, Ud, Ud, Ud, Ud, Ud, Ud, Ud, Ud, Ud, Ud, Ud, Ud, Ud]) rfl (fun _ => rfl) (fun u hu hF => ?_) (fun v32 => ?_)
  · have h8_ : v31 = (Pt g_b g_o) := hF.1
    clear hF
    refine doesG_un rfl ?_
    obtain rfl := h8_
    refine (does_fieldAddr (ev rfl) fa31_2).mono ?_; rintro _ _ ⟨rfl, rfl⟩
    exact ⟨rfl, Ext.refl _⟩
  refine RW_d (fun v33 => [(Pt g_b g_o), (.agg #[(Iv x), (Iv y), (Iv z)]), Ud, (Pt b15 0), (Iv 0), v28, v29, v30, v31, v32, v33, Ud, Ud, Ud, Ud, Ud, Ud, Ud, Ud, Ud, Ud, Ud, Ud]) rfl (fun _ => rfl) (fun u hu hF => ?_) (fun v33 => ?_)
  · have h9_ : v32 = (Pt g_b (g_o + 4)) := hF.1
    clear hF
    refine doesG_un rfl ?_
    obtain rfl := h9_
    refine (does_load (u := (Iv A_g.x)) (ev rfl) Try.isAgg2 (Cells.at ((hc_g.ext (Ext.gr X22 E25)).ext hu) 4 rfl)).mono ?_; rintro _ _ ⟨rfl, rfl⟩
    exact ⟨rfl, Ext.refl _⟩
  refine RW_d (fun v34 => [(Pt g_b g_o), (.agg #[(Iv x), (Iv y), (Iv z)]), Ud, (Pt b15 0), (Iv 0), v28, v29, v30, v31, v32, v33, v34, Ud, Ud, Ud, Ud, Ud, Ud, Ud, Ud, Ud, Ud, Ud]) rfl (fun _ => rfl) (fun u hu hF => ?_) (fun v34 => ?_)
  · clear hF
    refine doesG_un rfl ?_
    refine (does_indexAt_run (r := (Pt b15 1)) (ev rfl) (ev rfl) (fun w => ia55_1 _ _ w)).mono ?_; rintro _ _ ⟨rfl, rfl⟩
    exact ⟨rfl, Ext.refl _⟩
  refine RW_d (fun v35 => [(Pt g_b g_o), (.agg #[(Iv x), (Iv y), (Iv z)]), Ud, (Pt b15 0), (Iv 0), v28, v29, v30, v31, v32, v33, v34, v35, Ud, Ud, Ud, Ud, Ud, Ud, Ud, Ud, Ud, Ud]) rfl (fun _ => rfl) (fun u hu hF => ?_) (fun v35 => ?_)
  · have h11_ : v34 = (Pt b15 1) := hF.1
    clear hF
    refine doesG_un rfl ?_
    obtain rfl := h11_
    refine (does_load (u := (Iv y)) (ev rfl) Try.isAgg2 (Cells.at (Blk.cells ((hB17.ext E25).ext hu)) 1 rfl)).mono ?_; rintro _ _ ⟨rfl, rfl⟩
    exact ⟨rfl, Ext.refl _⟩
  refine RW_d (fun v36 => [(Pt g_b g_o), (.agg #[(Iv x), (Iv y), (Iv z)]), Ud, (Pt b15 0), (Iv 0), v28, v29, v30, v31, v32, v33, v34, v35, v36, Ud, Ud, Ud, Ud, Ud, Ud, Ud, Ud, Ud]) rfl (fun _ => rfl) (fun u hu hF => ?_) (fun v36 => ?_)
  · clear hF
    refine doesG_un rfl ?_
    refine (does_move (u := (Pt g_b g_o)) (ev rfl)).mono ?_; rintro _ _ ⟨rfl, rfl⟩
    exact ⟨rfl, Ext.refl _⟩
  refine RW_d (fun v37 => [(Pt g_b g_o), (.agg #[(Iv x), (Iv y), (Iv z)]), Ud, (Pt b15 0), (Iv 0), v28, v29, v30, v31, v32, v33, v34, v35, v36, v37, Ud, Ud, Ud, Ud, Ud, Ud, Ud, Ud]) rfl (fun _ => rfl) (fun u hu hF => ?_) (fun v37 => ?_)
  · have h13_ : v36 = (Pt g_b g_o) := hF.1
    clear hF
    refine doesG_un rfl ?_
    obtain rfl := h13_
    refine (does_nilCheck (ev rfl)).mono ?_; rintro _ _ ⟨rfl, rfl⟩
    exact ⟨rfl, Ext.refl _⟩
  refine RW_d (fun v38 => [(Pt g_b g_o), (.agg #[(Iv x), (Iv y), (Iv z)]), Ud, (Pt b15 0), (Iv 0), v28, v29, v30, v31, v32, v33, v34, v35, v36, v37, v38, Ud, Ud, Ud, Ud, Ud, Ud, Ud]) rfl (fun _ => rfl) (fun u hu hF => ?_) (fun v38 => ?_)
  · have h14_ : v37 = (Pt g_b g_o) := hF.1
    clear hF
    refine doesG_un rfl ?_
    obtain rfl := h14_
    refine (does_fieldAddr (ev rfl) fa31_3).mono ?_; rintro _ _ ⟨rfl, rfl⟩
    exact ⟨rfl, Ext.refl _⟩
  refine RW_d (fun v39 => [(Pt g_b g_o), (.agg #[(Iv x), (Iv y), (Iv z)]), Ud, (Pt b15 0), (Iv 0), v28, v29, v30, v31, v32, v33, v34, v35, v36, v37, v38, v39, Ud, Ud, Ud, Ud, Ud, Ud]) rfl (fun _ => rfl) (fun u hu hF => ?_) (fun v39 => ?_)
  · have h15_ : v38 = (Pt g_b (g_o + 5)) := hF.1
    clear hF
    refine doesG_un rfl ?_
    obtain rfl := h15_
    refine (does_load (u := (Iv A_g.y)) (ev rfl) Try.isAgg2 (Cells.at ((hc_g.ext (Ext.gr X22 E25)).ext hu) 5 rfl)).mono ?_; rintro _ _ ⟨rfl, rfl⟩
    exact ⟨rfl, Ext.refl _⟩
  refine RW_d (fun v40 => [(Pt g_b g_o), (.agg #[(Iv x), (Iv y), (Iv z)]), Ud, (Pt b15 0), (Iv 0), v28, v29, v30, v31, v32, v33, v34, v35, v36, v37, v38, v39, v40, Ud, Ud, Ud, Ud, Ud]) rfl (fun _ => rfl) (fun u hu hF => ?_) (fun v40 => ?_)
  · clear hF
    refine doesG_un rfl ?_
    refine (does_indexAt_run (r := (Pt b15 2)) (ev rfl) (ev rfl) (fun w => ia55_2 _ _ w)).mono ?_; rintro _ _ ⟨rfl, rfl⟩
    exact ⟨rfl, Ext.refl _⟩
  refine RW_d (fun v41 => [(Pt g_b g_o), (.agg #[(Iv x), (Iv y), (Iv z)]), Ud, (Pt b15 0), (Iv 0), v28, v29, v30, v31, v32, v33, v34, v35, v36, v37, v38, v39, v40, v41, Ud, Ud, Ud, Ud]) rfl (fun _ => rfl) (fun u hu hF => ?_) (fun v41 => ?_)
  · have h17_ : v40 = (Pt b15 2) := hF.1
    clear hF
    refine doesG_un rfl ?_
    obtain rfl := h17_
    refine (does_load (u := (Iv z)) (ev rfl) Try.isAgg2 (Cells.at (Blk.cells ((hB17.ext E25).ext hu)) 2 rfl)).mono ?_; rintro _ _ ⟨rfl, rfl⟩
    exact ⟨rfl, Ext.refl _⟩
  refine RW_d (fun v42 => [(Pt g_b g_o), (.agg #[(Iv x), (Iv y), (Iv z)]), Ud, (Pt b15 0), (Iv 0), v28, v29, v30, v31, v32, v33, v34, v35, v36, v37, v38, v39, v40, v41, v42, Ud, Ud, Ud]) rfl (fun _ => rfl) (fun u hu hF => ?_) (fun v42 => ?_)
  · have h16_ : v39 = (Iv A_g.y) := hF.1
    have h18_ : v41 = (Iv z) := hF.2.1
    clear hF
    refine doesG_un rfl ?_
    obtain rfl := h16_
    obtain rfl := h18_
    refine (does_iarith (p := A_g.y) (q := z) (r := IntKind.i64.wrap (A_g.y * z)) (ev rfl) (ev rfl) (.inr (.inr ⟨rfl, rfl⟩))).mono ?_; rintro _ _ ⟨rfl, rfl⟩
    exact ⟨rfl, Ext.refl _⟩
  refine RW_d (fun v43 => [(Pt g_b g_o), (.agg #[(Iv x), (Iv y), (Iv z)]), Ud, (Pt b15 0), (Iv 0), v28, v29, v30, v31, v32, v33, v34, v35, v36, v37, v38, v39, v40, v41, v42, v43, Ud, Ud]) rfl (fun _ => rfl) (fun u hu hF => ?_) (fun v43 => ?_)
  · have h12_ : v35 = (Iv y) := hF.1
    have h19_ : v42 = (Iv (IntKind.i64.wrap (A_g.y * z))) := hF.2.1
    clear hF
    refine doesG_un rfl ?_
    obtain rfl := h12_
    obtain rfl := h19_
    refine (does_iarith (p := y) (q := IntKind.i64.wrap (A_g.y * z)) (r := IntKind.i64.wrap (y + (IntKind.i64.wrap (A_g.y * z)))) (ev rfl) (ev rfl) (.inl ⟨rfl, rfl⟩)).mono ?_; rintro _ _ ⟨rfl, rfl⟩
    exact ⟨rfl, Ext.refl _⟩
  refine RW_d (fun v44 => [(Pt g_b g_o), (.agg #[(Iv x), (Iv y), (Iv z)]), Ud, (Pt b15 0), (Iv 0), v28, v29, v30, v31, v32, v33, v34, v35, v36, v37, v38, v39, v40, v41, v42, v43, v44, Ud]) rfl (fun _ => rfl) (fun u hu hF => ?_) (fun v44 => ?_)
  · have h10_ : v33 = (Iv A_g.x) := hF.1
    have h20_ : v43 = (Iv (IntKind.i64.wrap (y + (IntKind.i64.wrap (A_g.y * z))))) := hF.2.1
    clear hF
    refine doesG_un rfl ?_
    obtain rfl := h10_
    obtain rfl := h20_
    refine (does_iarith (p := A_g.x) (q := IntKind.i64.wrap (y + (IntKind.i64.wrap (A_g.y * z)))) (r := IntKind.i64.wrap (A_g.x * (IntKind.i64.wrap (y + (IntKind.i64.wrap (A_g.y * z)))))) (ev rfl) (ev rfl) (.inr (.inr ⟨rfl, rfl⟩))).mono ?_; rintro _ _ ⟨rfl, rfl⟩
    exact ⟨rfl, Ext.refl _⟩
  refine RW_d (fun v45 => [(Pt g_b g_o), (.agg #[(Iv x), (Iv y), (Iv z)]), Ud, (Pt b15 0), (Iv 0), v28, v29, v30, v31, v32, v33, v34, v35, v36, v37, v38, v39, v40, v41, v42, v43, v44, v45]) rfl (fun _ => rfl) (fun u hu hF => ?_) (fun v45 => ?_)
  · have h6_ : v29 = (Iv x) := hF.1
    have h21_ : v44 = (Iv (IntKind.i64.wrap (A_g.x * (IntKind.i64.wrap (y + (IntKind.i64.wrap (A_g.y * z))))))) := hF.2.1
    clear hF
    refine doesG_un rfl ?_
    obtain rfl := h6_
    obtain rfl := h21_
    refine (does_iarith (p := x) (q := IntKind.i64.wrap (A_g.x * (IntKind.i64.wrap (y + (IntKind.i64.wrap (A_g.y * z)))))) (r := IntKind.i64.wrap (x + (IntKind.i64.wrap (A_g.x * (IntKind.i64.wrap (y + (IntKind.i64.wrap (A_g.y * z)))))))) (ev rfl) (ev rfl) (.inl ⟨rfl, rfl⟩)).mono ?_; rintro _ _ ⟨rfl, rfl⟩
    exact ⟨rfl, Ext.refl _⟩
  refine RW_fin ?_; intro w46 E47 hP48
  obtain ⟨⟨⟨⟨⟨⟨⟨⟨⟨⟨⟨⟨⟨⟨⟨⟨⟨⟨-, -⟩, -⟩, -⟩, -⟩, -⟩, -⟩, -⟩, -⟩, -⟩, -⟩, -⟩, -⟩, -⟩, -⟩, -⟩, -⟩, -⟩, q49⟩ := hP48
  have X50 := Ext.gr X27 E47
  have q49 : v45 = (Iv (IntKind.i64.wrap (x + (IntKind.i64.wrap (A_g.x * (IntKind.i64.wrap (y + (IntKind.i64.wrap (A_g.y * z))))))))) := q49
  obtain rfl := q49
  show wpList _ _ _ _ (fr [(Pt g_b g_o), (.agg #[(Iv x), (Iv y), (Iv z)]), Ud, (Pt b15 0), (Iv 0), v28, v29, v30, v31, v32, v33, v34, v35, v36, v37, v38, v39, v40, v41, v42, v43, v44, (Iv (IntKind.i64.wrap (x + (IntKind.i64.wrap (A_g.x * (IntKind.i64.wrap (y + (IntKind.i64.wrap (A_g.y * z)))))))))]) _
  refine q_is (l' := [(Pt g_b g_o), (.agg #[(Iv x), (Iv y), (Iv z)]), Ud, (Pt b15 0), (Iv (IntKind.i64.wrap (x + (IntKind.i64.wrap (A_g.x * (IntKind.i64.wrap (y + (IntKind.i64.wrap (A_g.y * z))))))))), v28, v29, v30, v31, v32, v33, v34, v35, v36, v37, v38, v39, v40, v41, v42, v43, v44, (Iv (IntKind.i64.wrap (x + (IntKind.i64.wrap (A_g.x * (IntKind.i64.wrap (y + (IntKind.i64.wrap (A_g.y * z)))))))))]) rfl rfl (does_assign (u := (Iv (IntKind.i64.wrap (x + (IntKind.i64.wrap (A_g.x * (IntKind.i64.wrap (y + (IntKind.i64.wrap (A_g.y * z)))))))))) (ev rfl)) rfl ?_
  refine wpList_nil (hK23 _ _ ?_)
  refine wp_ret ?_
  refine ret_val (v := (Iv (IntKind.i64.wrap (x + (IntKind.i64.wrap (A_g.x * (IntKind.i64.wrap (y + (IntKind.i64.wrap (A_g.y * z)))))))))) (res_T rfl (slot rfl)) X50 ?_
  have x51 : (idxG A_g x y z : Int) = (IntKind.i64.wrap (x + (IntKind.i64.wrap (A_g.x * (IntKind.i64.wrap (y + (IntKind.i64.wrap (A_g.y * z)))))))) := by first | with_reducible rfl | (simp only [idxG, h2, h4, h6, h8]; done) | (simp [idxG, h2, h4, h6, h8]; done) | rfl
  exact (by first | rfl | rw [x51])

/- (*impl.Grid).place -/
theorem c_impl_Grid_place (g_b : Nat) (g_o : Nat) (g : List Value) (A_g : GridT) (ix : Int) (w : World) (hc_g : Cells w g_b g_o g) (hv_g : RGridT w A_g g) (hpx : 1 ≤ A_g.x) (hpy : 1 ≤ A_g.y) (hpi : 0 ≤ ix ∧ ix ≤ 9223372036854775807) : Gives Try.prog 53 #[(Pt g_b g_o), (Iv ix)] w (fun v w' => v = (.agg #[(Iv (ix % A_g.x)), (Iv (ix / A_g.x % A_g.y)), (Iv (ix / A_g.x / A_g.y))])) := by
  obtain ⟨r1, r3, r5, r7, y9, rfl, h2, h4, h6, h8, h10⟩ := hv_g
  have hs13 := h10; have hs13l := Sl.len h10; obtain ⟨p11, q12, rfl⟩ := Sl.shape h10
  have hq1 := Int.ediv_nonneg hpi.1 (show 0 ≤ A_g.x by omega)
  have hq2 := Int.ediv_le_self A_g.x hpi.1
  refine enter [(Pt g_b g_o), (Iv ix), Ud, Ud, Ud, Ud, Ud, Ud, Ud, Ud, Ud, Ud, Ud, Ud, Ud, Ud, Ud, Ud, Ud, Ud, Ud, Ud, Ud, Ud, Ud, Ud, Ud, Ud, Ud, Ud, Ud, Ud, Ud, Ud] Try.func53 rfl Try.ntmps53 rfl ?_
  refine wp_seq_k fun K14 hK14 => ?_
  refine wp_region_lit ?_
  refine seqd rfl rfl (does_alloc z55) ?_; rintro _ w19 ⟨b15, rfl, hb16, hB17, E18⟩
  have n20 : g_b < b15 := Nat.lt_of_lt_of_le (cell_lt (Cells.at hc_g 0 rfl)) hb16
  have g21 : w.heap.size ≤ b15 := Nat.le_trans (Below.size (Ext.refl w)) hb16
  change Blk _ _ [(Iv 0), (Iv 0), (Iv 0)] at hB17
  have X22 := Ext.gr (Ext.refl w) E18
  show wpList _ _ _ _ (fr [(Pt g_b g_o), (Iv ix), Ud, Ud, (Pt b15 0), Ud, Ud, Ud, Ud, Ud, Ud, Ud, Ud, Ud, Ud, Ud, Ud, Ud, Ud, Ud, Ud, Ud, Ud, Ud, Ud, Ud, Ud, Ud, Ud, Ud, Ud, Ud, Ud, Ud]) _
  refine wpList_nil (hK14 _ _ ?_)
  refine wp_seq_k fun K23 hK23 => ?_
  refine region_draw (
    [Fact.pure [] (fun v => v = (Iv ix)),
    Fact.pure [] (fun v => v = (Pt g_b g_o)),
    Fact.pure [6] (fun v => v = (Pt g_b g_o)),
    Fact.pure [7] (fun v => v = (Pt g_b (g_o + 4))),
    Fact.pure [8] (fun v => v = (Iv A_g.x)),
    Fact.pure [5, 9] (fun v => v = (Iv (ix % A_g.x))),
    Fact.pure [] (fun v => v = (Iv ix)),
    Fact.pure [] (fun v => v = (Pt g_b g_o)),
    Fact.pure [12] (fun v => v = (Pt g_b g_o)),
    Fact.pure [13] (fun v => v = (Pt g_b (g_o + 4))),
    Fact.pure [14] (fun v => v = (Iv A_g.x)),
    Fact.pure [11, 15] (fun v => v = (Iv (ix / A_g.x))),
    Fact.pure [] (fun v => v = (Pt g_b g_o)),
    Fact.pure [17] (fun v => v = (Pt g_b g_o)),
    Fact.pure [18] (fun v => v = (Pt g_b (g_o + 5))),
    Fact.pure [19] (fun v => v = (Iv A_g.y)),
    Fact.pure [16, 20] (fun v => v = (Iv ((ix / A_g.x) % A_g.y))),
    Fact.pure [] (fun v => v = (Iv ix)),
    Fact.pure [] (fun v => v = (Pt g_b g_o)),
    Fact.pure [23] (fun v => v = (Pt g_b g_o)),
    Fact.pure [24] (fun v => v = (Pt g_b (g_o + 4))),
    Fact.pure [25] (fun v => v = (Iv A_g.x)),
    Fact.pure [22, 26] (fun v => v = (Iv (ix / A_g.x))),
    Fact.pure [] (fun v => v = (Pt g_b g_o)),
    Fact.pure [28] (fun v => v = (Pt g_b g_o)),
    Fact.pure [29] (fun v => v = (Pt g_b (g_o + 5))),
    Fact.pure [30] (fun v => v = (Iv A_g.y)),
    Fact.pure [27, 31] (fun v => v = (Iv ((ix / A_g.x) / A_g.y))),
    Fact.pure [10, 21, 32] (fun v => v = (.agg #[(Iv (ix % A_g.x)), (Iv ((ix / A_g.x) % A_g.y)), (Iv ((ix / A_g.x) / A_g.y))]))]) mixed (by kernel_rfl) (by intro _ _ d _ _ h; cases d <;> exact h) ?_
  obtain ⟨w24, hw26⟩ : ∃ w', w' = World.drew w19 := ⟨_, rfl⟩; rw [← hw26]; have E25 : Ext w19 w24 := by rw [hw26]; exact Ext.draw _
  clear hw26
  have X27 := Ext.gr X22 E25
  refine RW_d _ rfl (fun v => by dsimp only [List.set]; try rfl) (fun u hu hF => ?_) (fun v28 => ?_)
  · clear hF
    refine doesG_un rfl ?_
    refine (does_move (u := (Iv ix)) (ev rfl)).mono ?_; rintro _ _ ⟨rfl, rfl⟩
    exact ⟨rfl, Ext.refl _⟩
  refine RW_d _ rfl (fun v => by dsimp only [List.set]; try rfl) (fun u hu hF => ?_) (fun v29 => ?_)
  · clear hF
    refine doesG_un rfl ?_
    refine (does_move (u := (Pt g_b g_o)) (ev rfl)).mono ?_; rintro _ _ ⟨rfl, rfl⟩
    exact ⟨rfl, Ext.refl _⟩
  refine RW_d _ rfl (fun v => by dsimp only [List.set]; try rfl) (fun u hu hF => ?_) (fun v30 => ?_)
  · have h6_ : v29 = (Pt g_b g_o) := hF.1
    clear hF
    refine doesG_un rfl ?_
    obtain rfl := h6_
    refine (does_nilCheck (ev rfl)).mono ?_; rintro _ _ ⟨rfl, rfl⟩
    exact ⟨rfl, Ext.refl _⟩
  refine RW_d _ rfl (fun v => by dsimp only [List.set]; try rfl) (fun u hu hF => ?_) (fun v31 => ?_)
  · have h7_ : v30 = (Pt g_b g_o) := hF.1
    clear hF
    refine doesG_un rfl ?_
    obtain rfl := h7_
    refine (does_fieldAddr (ev rfl) fa31_2).mono ?_; rintro _ _ ⟨rfl, rfl⟩
    exact ⟨rfl, Ext.refl _⟩
  refine RW_d _ rfl (fun v => by dsimp only [List.set]; try rfl) (fun u hu hF => ?_) (fun v32 => ?_)
  · have h8_ : v31 = (Pt g_b (g_o + 4)) := hF.1
    clear hF
    refine doesG_un rfl ?_
    obtain rfl := h8_
    refine (does_load (u := (Iv A_g.x)) (ev rfl) Try.isAgg2 (Cells.at ((hc_g.ext (Ext.gr X22 E25)).ext hu) 4 rfl)).mono ?_; rintro _ _ ⟨rfl, rfl⟩
    exact ⟨rfl, Ext.refl _⟩
  refine RW_d _ rfl (fun v => by dsimp only [List.set]; try rfl) (fun u hu hF => ?_) (fun v33 => ?_)
  · have h5_ : v28 = (Iv ix) := hF.1
    have h9_ : v32 = (Iv A_g.x) := hF.2.1
    clear hF
    refine doesG_un rfl ?_
    obtain rfl := h5_
    obtain rfl := h9_
    refine (does_irem (p := ix) (q := A_g.x) (ev rfl) (ev rfl) (by first | omega | assumption) (by first | omega | assumption) (by first | omega | assumption)).mono ?_; rintro _ _ ⟨rfl, rfl⟩
    exact ⟨rfl, Ext.refl _⟩
  refine RW_d _ rfl (fun v => by dsimp only [List.set]; try rfl) (fun u hu hF => ?_) (fun v34 => ?_)
  · clear hF
    refine doesG_un rfl ?_
    refine (does_move (u := (Iv ix)) (ev rfl)).mono ?_; rintro _ _ ⟨rfl, rfl⟩
    exact ⟨rfl, Ext.refl _⟩
  refine RW_d _ rfl (fun v => by dsimp only [List.set]; try rfl) (fun u hu hF => ?_) (fun v35 => ?_)
  · clear hF
    refine doesG_un rfl ?_
    refine (does_move (u := (Pt g_b g_o)) (ev rfl)).mono ?_; rintro _ _ ⟨rfl, rfl⟩
    exact ⟨rfl, Ext.refl _⟩
  refine RW_d _ rfl (fun v => by dsimp only [List.set]; try rfl) (fun u hu hF => ?_) (fun v36 => ?_)
  · have h12_ : v35 = (Pt g_b g_o) := hF.1
    clear hF
    refine doesG_un rfl ?_
    obtain rfl := h12_
    refine (does_nilCheck (ev rfl)).mono ?_; rintro _ _ ⟨rfl, rfl⟩
    exact ⟨rfl, Ext.refl _⟩
  refine RW_d _ rfl (fun v => by dsimp only [List.set]; try rfl) (fun u hu hF => ?_) (fun v37 => ?_)
  · have h13_ : v36 = (Pt g_b g_o) := hF.1
    clear hF
    refine doesG_un rfl ?_
    obtain rfl := h13_
    refine (does_fieldAddr (ev rfl) fa31_2).mono ?_; rintro _ _ ⟨rfl, rfl⟩
    exact ⟨rfl, Ext.refl _⟩
  refine RW_d _ rfl (fun v => by dsimp only [List.set]; try rfl) (fun u hu hF => ?_) (fun v38 => ?_)
  · have h14_ : v37 = (Pt g_b (g_o + 4)) := hF.1
    clear hF
    refine doesG_un rfl ?_
    obtain rfl := h14_
    refine (does_load (u := (Iv A_g.x)) (ev rfl) Try.isAgg2 (Cells.at ((hc_g.ext (Ext.gr X22 E25)).ext hu) 4 rfl)).mono ?_; rintro _ _ ⟨rfl, rfl⟩
    exact ⟨rfl, Ext.refl _⟩
  refine RW_d _ rfl (fun v => by dsimp only [List.set]; try rfl) (fun u hu hF => ?_) (fun v39 => ?_)
  · have h11_ : v34 = (Iv ix) := hF.1
    have h15_ : v38 = (Iv A_g.x) := hF.2.1
    clear hF
    refine doesG_un rfl ?_
    obtain rfl := h11_
    obtain rfl := h15_
    refine (does_iquo (p := ix) (q := A_g.x) (ev rfl) (ev rfl) (by first | omega | assumption) (by first | omega | assumption) (by first | omega | assumption)).mono ?_; rintro _ _ ⟨rfl, rfl⟩
    exact ⟨rfl, Ext.refl _⟩
  refine RW_d _ rfl (fun v => by dsimp only [List.set]; try rfl) (fun u hu hF => ?_) (fun v40 => ?_)
  · clear hF
    refine doesG_un rfl ?_
    refine (does_move (u := (Pt g_b g_o)) (ev rfl)).mono ?_; rintro _ _ ⟨rfl, rfl⟩
    exact ⟨rfl, Ext.refl _⟩
  refine RW_d _ rfl (fun v => by dsimp only [List.set]; try rfl) (fun u hu hF => ?_) (fun v41 => ?_)
  · have h17_ : v40 = (Pt g_b g_o) := hF.1
    clear hF
    refine doesG_un rfl ?_
    obtain rfl := h17_
    refine (does_nilCheck (ev rfl)).mono ?_; rintro _ _ ⟨rfl, rfl⟩
    exact ⟨rfl, Ext.refl _⟩
  refine RW_d _ rfl (fun v => by dsimp only [List.set]; try rfl) (fun u hu hF => ?_) (fun v42 => ?_)
  · have h18_ : v41 = (Pt g_b g_o) := hF.1
    clear hF
    refine doesG_un rfl ?_
    obtain rfl := h18_
    refine (does_fieldAddr (ev rfl) fa31_3).mono ?_; rintro _ _ ⟨rfl, rfl⟩
    exact ⟨rfl, Ext.refl _⟩
  refine RW_d _ rfl (fun v => by dsimp only [List.set]; try rfl) (fun u hu hF => ?_) (fun v43 => ?_)
  · have h19_ : v42 = (Pt g_b (g_o + 5)) := hF.1
    clear hF
    refine doesG_un rfl ?_
    obtain rfl := h19_
    refine (does_load (u := (Iv A_g.y)) (ev rfl) Try.isAgg2 (Cells.at ((hc_g.ext (Ext.gr X22 E25)).ext hu) 5 rfl)).mono ?_; rintro _ _ ⟨rfl, rfl⟩
    exact ⟨rfl, Ext.refl _⟩
  refine RW_d _ rfl (fun v => by dsimp only [List.set]; try rfl) (fun u hu hF => ?_) (fun v44 => ?_)
  · have h16_ : v39 = (Iv (ix / A_g.x)) := hF.1
    have h20_ : v43 = (Iv A_g.y) := hF.2.1
    clear hF
    refine doesG_un rfl ?_
    obtain rfl := h16_
    obtain rfl := h20_
    refine (does_irem (p := ix / A_g.x) (q := A_g.y) (ev rfl) (ev rfl) (by first | omega | assumption) (by first | omega | assumption) (by first | omega | assumption)).mono ?_; rintro _ _ ⟨rfl, rfl⟩
    exact ⟨rfl, Ext.refl _⟩
  refine RW_d _ rfl (fun v => by dsimp only [List.set]; try rfl) (fun u hu hF => ?_) (fun v45 => ?_)
  · clear hF
    refine doesG_un rfl ?_
    refine (does_move (u := (Iv ix)) (ev rfl)).mono ?_; rintro _ _ ⟨rfl, rfl⟩
    exact ⟨rfl, Ext.refl _⟩
  refine RW_d _ rfl (fun v => by dsimp only [List.set]; try rfl) (fun u hu hF => ?_) (fun v46 => ?_)
  · clear hF
    refine doesG_un rfl ?_
    refine (does_move (u := (Pt g_b g_o)) (ev rfl)).mono ?_; rintro _ _ ⟨rfl, rfl⟩
    exact ⟨rfl, Ext.refl _⟩
  refine RW_d _ rfl (fun v => by dsimp only [List.set]; try rfl) (fun u hu hF => ?_) (fun v47 => ?_)
  · have h23_ : v46 = (Pt g_b g_o) := hF.1
    clear hF
    refine doesG_un rfl ?_
    obtain rfl := h23_
    refine (does_nilCheck (ev rfl)).mono ?_; rintro _ _ ⟨rfl, rfl⟩
    exact ⟨rfl, Ext.refl _⟩
  refine RW_d _ rfl (fun v => by dsimp only [List.set]; try rfl) (fun u hu hF => ?_) (fun v48 => ?_)
  · have h24_ : v47 = (Pt g_b g_o) := hF.1
    clear hF
    refine doesG_un rfl ?_
    obtain rfl := h24_
    refine (does_fieldAddr (ev rfl) fa31_2).mono ?_; rintro _ _ ⟨rfl, rfl⟩
    exact ⟨rfl, Ext.refl _⟩
  refine RW_d _ rfl (fun v => by dsimp only [List.set]; try rfl) (fun u hu hF => ?_) (fun v49 => ?_)
  · have h25_ : v48 = (Pt g_b (g_o + 4)) := hF.1
    clear hF
    refine doesG_un rfl ?_
    obtain rfl := h25_
    refine (does_load (u := (Iv A_g.x)) (ev rfl) Try.isAgg2 (Cells.at ((hc_g.ext (Ext.gr X22 E25)).ext hu) 4 rfl)).mono ?_; rintro _ _ ⟨rfl, rfl⟩
    exact ⟨rfl, Ext.refl _⟩
  refine RW_d _ rfl (fun v => by dsimp only [List.set]; try rfl) (fun u hu hF => ?_) (fun v50 => ?_)
  · have h22_ : v45 = (Iv ix) := hF.1
    have h26_ : v49 = (Iv A_g.x) := hF.2.1
    clear hF
    refine doesG_un rfl ?_
    obtain rfl := h22_
    obtain rfl := h26_
    refine (does_iquo (p := ix) (q := A_g.x) (ev rfl) (ev rfl) (by first | omega | assumption) (by first | omega | assumption) (by first | omega | assumption)).mono ?_; rintro _ _ ⟨rfl, rfl⟩
    exact ⟨rfl, Ext.refl _⟩
  refine RW_d _ rfl (fun v => by dsimp only [List.set]; try rfl) (fun u hu hF => ?_) (fun v51 => ?_)
  · clear hF
    refine doesG_un rfl ?_
    refine (does_move (u := (Pt g_b g_o)) (ev rfl)).mono ?_; rintro _ _ ⟨rfl, rfl⟩
    exact ⟨rfl, Ext.refl _⟩
  refine RW_d _ rfl (fun v => by dsimp only [List.set]; try rfl) (fun u hu hF => ?_) (fun v52 => ?_)
  · have h28_ : v51 = (Pt g_b g_o) := hF.1
    clear hF
    refine doesG_un rfl ?_
    obtain rfl := h28_
    refine (does_nilCheck (ev rfl)).mono ?_; rintro _ _ ⟨rfl, rfl⟩
    exact ⟨rfl, Ext.refl _⟩
  refine RW_d _ rfl (fun v => by dsimp only [List.set]; try rfl) (fun u hu hF => ?_) (fun v53 => ?_)
  · have h29_ : v52 = (Pt g_b g_o) := hF.1
    clear hF
    refine doesG_un rfl ?_
    obtain rfl := h29_
    refine (does_fieldAddr (ev rfl) fa31_3).mono ?_; rintro _ _ ⟨rfl, rfl⟩
    exact ⟨rfl, Ext.refl _⟩
  refine RW_d _ rfl (fun v => by dsimp only [List.set]; try rfl) (fun u hu hF => ?_) (fun v54 => ?_)
  · have h30_ : v53 = (Pt g_b (g_o + 5)) := hF.1
    clear hF
    refine doesG_un rfl ?_
    obtain rfl := h30_
    refine (does_load (u := (Iv A_g.y)) (ev rfl) Try.isAgg2 (Cells.at ((hc_g.ext (Ext.gr X22 E25)).ext hu) 5 rfl)).mono ?_; rintro _ _ ⟨rfl, rfl⟩
    exact ⟨rfl, Ext.refl _⟩
  refine RW_d _ rfl (fun v => by dsimp only [List.set]; try rfl) (fun u hu hF => ?_) (fun v55 => ?_)
  · have h27_ : v50 = (Iv (ix / A_g.x)) := hF.1
    have h31_ : v54 = (Iv A_g.y) := hF.2.1
    clear hF
    refine doesG_un rfl ?_
    obtain rfl := h27_
    obtain rfl := h31_
    refine (does_iquo (p := ix / A_g.x) (q := A_g.y) (ev rfl) (ev rfl) (by first | omega | assumption) (by first | omega | assumption) (by first | omega | assumption)).mono ?_; rintro _ _ ⟨rfl, rfl⟩
    exact ⟨rfl, Ext.refl _⟩
  refine RW_d _ rfl (fun v => by dsimp only [List.set]; try rfl) (fun u hu hF => ?_) (fun v56 => ?_)
  · have h10_ : v33 = (Iv (ix % A_g.x)) := hF.1
    have h21_ : v44 = (Iv ((ix / A_g.x) % A_g.y)) := hF.2.1
    have h32_ : v55 = (Iv ((ix / A_g.x) / A_g.y)) := hF.2.2.1
    clear hF
    refine doesG_un rfl ?_
    obtain rfl := h10_
    obtain rfl := h21_
    obtain rfl := h32_
    refine (does_build (parts' := [(0, (Iv (ix % A_g.x))), (1, (Iv ((ix / A_g.x) % A_g.y))), (2, (Iv ((ix / A_g.x) / A_g.y)))]) (cells := #[(Iv (ix % A_g.x)), (Iv ((ix / A_g.x) % A_g.y)), (Iv ((ix / A_g.x) / A_g.y))]) (evp rfl) (by kernel_rfl)).mono ?_; rintro _ _ ⟨rfl, rfl⟩
    exact ⟨rfl, Ext.refl _⟩
  refine RW_fin ?_; intro w57 E58 hP59
  obtain ⟨⟨⟨⟨⟨⟨⟨⟨⟨⟨⟨⟨⟨⟨⟨⟨⟨⟨⟨⟨⟨⟨⟨⟨⟨⟨⟨⟨⟨-, -⟩, -⟩, -⟩, -⟩, -⟩, -⟩, -⟩, -⟩, -⟩, -⟩, -⟩, -⟩, -⟩, -⟩, -⟩, -⟩, -⟩, -⟩, -⟩, -⟩, -⟩, -⟩, -⟩, -⟩, -⟩, -⟩, -⟩, -⟩, q60⟩ := hP59
  have X61 := Ext.gr X27 E58
  have q60 : v56 = (.agg #[(Iv (ix % A_g.x)), (Iv ((ix / A_g.x) % A_g.y)), (Iv ((ix / A_g.x) / A_g.y))]) := q60
  obtain rfl := q60
  show wpList _ _ _ _ (fr [(Pt g_b g_o), (Iv ix), Ud, Ud, (Pt b15 0), v28, v29, v30, v31, v32, v33, v34, v35, v36, v37, v38, v39, v40, v41, v42, v43, v44, v45, v46, v47, v48, v49, v50, v51, v52, v53, v54, v55, (.agg #[(Iv (ix % A_g.x)), (Iv ((ix / A_g.x) % A_g.y)), (Iv ((ix / A_g.x) / A_g.y))])]) _
  refine seqn rfl rfl (does_store (n := 3) (cs := [(Iv 0), (Iv 0), (Iv 0)]) (u := (.agg #[(Iv (ix % A_g.x)), (Iv ((ix / A_g.x) % A_g.y)), (Iv ((ix / A_g.x) / A_g.y))])) (ev rfl) (ev rfl) Try.sizeOf55 rfl ((hB17.ext E25).ext E58) (Nat.le_of_ble_eq_true rfl) rfl) ?_; rintro _ w64 ⟨rfl, W62, hB63⟩
  change Blk _ _ [(Iv (ix % A_g.x)), (Iv ((ix / A_g.x) % A_g.y)), (Iv ((ix / A_g.x) / A_g.y))] at hB63
  have X65 := Below.wr X61 W62 g21
  refine wpList_nil (hK23 _ _ ?_)
  refine wp_ret ?_
  refine ret_val (v := (.agg #[(Iv (ix % A_g.x)), (Iv ((ix / A_g.x) % A_g.y)), (Iv ((ix / A_g.x) / A_g.y))])) (res_C rfl (slot rfl) (run_loadAgg (cs := [(Iv (ix % A_g.x)), (Iv ((ix / A_g.x) % A_g.y)), (Iv ((ix / A_g.x) / A_g.y))]) Try.isAgg55 Try.sizeOf55 (Blk.cells hB63) rfl)) X65 ?_
  have x66 : (ix % A_g.x : Int) = (ix % A_g.x) := by first | with_reducible rfl | (simp only [h2, h4, h6, h8]; done) | (simp [h2, h4, h6, h8]; done) | rfl
  have x67 : (ix / A_g.x % A_g.y : Int) = ((ix / A_g.x) % A_g.y) := by first | with_reducible rfl | (simp only [h2, h4, h6, h8]; done) | (simp [h2, h4, h6, h8]; done) | rfl
  have x68 : (ix / A_g.x / A_g.y : Int) = ((ix / A_g.x) / A_g.y) := by first | with_reducible rfl | (simp only [h2, h4, h6, h8]; done) | (simp [h2, h4, h6, h8]; done) | rfl
  exact (by first | rfl | rw [x66, x67, x68] | rw [x68, x67, x66])

/- (*impl.Grid).taken -/
theorem c_impl_Grid_taken (g_b : Nat) (g_o : Nat) (g : List Value) (A_g : GridT) (low : List Value) (A_low : V3) (st_ : Nat) (c0 : Int) (c1 : Int) (c2 : Int) (f : Value) (p0_f : Int → Int → Int → Int) (p1_f : Int → Int → Int → Int) (p2_f : Int → Int → Int → Int) (w : World) (hc_g : Cells w g_b g_o g) (hv_g : RGridT w A_g g) (hv_low : RV3 w A_low low) (hv_f : ∃ fi fst cap, f = .func (.func fi) fst cap ∧ (∀ args w, (callFunc fi args).run Try.prog w = .ok (.enter fi args) w) ∧ ∀ (x y z : Int) u, Ext w u → Gives Try.prog fi (fst ++ #[.agg #[Iv x, Iv y, Iv z]] ++ cap) u (fun v _ => v = .agg #[Iv (p0_f x y z), Iv (p1_f x y z), Iv (p2_f x y z)])) (hc0 : 1 ≤ c0 ∧ c0 ≤ 16) (hc1 : 1 ≤ c1 ∧ c1 ≤ 16) (hc2 : 1 ≤ c2 ∧ c2 ≤ 16) (hin : ∀ x y z : Int, 0 ≤ x ∧ x < c0 → 0 ≤ y ∧ y < c1 → 0 ≤ z ∧ z < c2 → 0 ≤ idxG A_g (p0_f x y z) (p1_f x y z) (p2_f x y z) ∧ idxG A_g (p0_f x y z) (p1_f x y z) (p2_f x y z) < A_g.vals.length) : Gives Try.prog 29 #[(Pt g_b g_o), (.agg low.toArray), (Fl st_), (.agg #[(Iv c0), (Iv c1), (Iv c2)]), f] w (fun v w' => ∃ cs_1 : List Value, ∃ Lw_2 : List Nat, v = (.tuple #[(.agg cs_1.toArray), (Bo (isGrid (GridT.mk A_low (cf .f32 st_) c0 c1 c2 (takG A_g (fun x y z => idxG A_g (p0_f x y z) (p1_f x y z) (p2_f x y z)) c0 c1 (c0 * c1 * c2).toNat))))]) ∧ Hang w.heap.size w' (fun u => RGridT u (gvA zG (isGrid (GridT.mk A_low (cf .f32 st_) c0 c1 c2 (takG A_g (fun x y z => idxG A_g (p0_f x y z) (p1_f x y z) (p2_f x y z)) c0 c1 (c0 * c1 * c2).toNat))) (GridT.mk A_low (cf .f32 st_) c0 c1 c2 (takG A_g (fun x y z => idxG A_g (p0_f x y z) (p1_f x y z) (p2_f x y z)) c0 c1 (c0 * c1 * c2).toNat))) cs_1) ∧ WL 1 w.heap.size w' Lw_2 (cellN cs_1 7) ((gvA zG (isGrid (GridT.mk A_low (cf .f32 st_) c0 c1 c2 (takG A_g (fun x y z => idxG A_g (p0_f x y z) (p1_f x y z) (p2_f x y z)) c0 c1 (c0 * c1 * c2).toNat))) (GridT.mk A_low (cf .f32 st_) c0 c1 c2 (takG A_g (fun x y z => idxG A_g (p0_f x y z) (p1_f x y z) (p2_f x y z)) c0 c1 (c0 * c1 * c2).toNat))).vals).length) := by
  obtain ⟨r1, r3, r5, r7, y9, rfl, h2, h4, h6, h8, h10⟩ := hv_g
  obtain ⟨r11, r13, r15, rfl, h12, h14, h16⟩ := hv_low
  obtain ⟨f_f, s_f, c_f, rfl, hcal_f, hg_f⟩ := hv_f
  have hs19 := h10; have hs19l := Sl.len h10; obtain ⟨p17, q18, rfl⟩ := Sl.shape h10
  have hvl := vol_le (a := c0) (b := c1) (c := c2) (by omega) (by omega) (by omega)
  refine enter [(Pt g_b g_o), (.agg #[(Fl r11), (Fl r13), (Fl r15)]), (Fl st_), (.agg #[(Iv c0), (Iv c1), (Iv c2)]), (.func (.func f_f) s_f c_f), Ud, Ud, Ud, Ud, Ud, Ud, Ud, Ud, Ud, Ud, Ud, Ud, Ud, Ud, Ud, Ud, Ud, Ud, Ud, Ud, Ud, Ud, Ud, Ud, Ud, Ud, Ud, Ud, Ud, Ud, Ud, Ud, Ud, Ud, Ud, Ud, Ud, Ud, Ud, Ud, Ud, Ud, Ud, Ud, Ud, Ud, Ud, Ud, Ud, Ud, Ud, Ud] Try.func29 rfl Try.ntmps29 rfl ?_
  refine wp_seq_k fun K20 hK20 => ?_
  refine wp_region_lit ?_
  refine seqd rfl rfl (does_box (u := (.agg #[(Fl r11), (Fl r13), (Fl r15)])) (ev rfl)) ?_; rintro _ w25 ⟨b21, rfl, hb22, hB23, E24⟩
  have n26 : g_b < b21 := Nat.lt_of_lt_of_le (cell_lt (Cells.at hc_g 0 rfl)) hb22
  have g27 : w.heap.size ≤ b21 := Nat.le_trans (Below.size (Ext.refl w)) hb22
  change Blk _ _ [(Fl r11), (Fl r13), (Fl r15)] at hB23
  have X28 := Ext.gr (Ext.refl w) E24
  show wpList _ _ _ _ (fr [(Pt g_b g_o), (.agg #[(Fl r11), (Fl r13), (Fl r15)]), (Fl st_), (.agg #[(Iv c0), (Iv c1), (Iv c2)]), (.func (.func f_f) s_f c_f), Ud, (Pt b21 0), Ud, Ud, Ud, Ud, Ud, Ud, Ud, Ud, Ud, Ud, Ud, Ud, Ud, Ud, Ud, Ud, Ud, Ud, Ud, Ud, Ud, Ud, Ud, Ud, Ud, Ud, Ud, Ud, Ud, Ud, Ud, Ud, Ud, Ud, Ud, Ud, Ud, Ud, Ud, Ud, Ud, Ud, Ud, Ud, Ud, Ud, Ud, Ud, Ud, Ud]) _
  refine seqd rfl rfl (does_box (u := (.agg #[(Iv c0), (Iv c1), (Iv c2)])) (ev rfl)) ?_; rintro _ w33 ⟨b29, rfl, hb30, hB31, E32⟩
  have n34 : g_b < b29 := Nat.lt_of_lt_of_le (cell_lt (Cells.at (hc_g.ext X28) 0 rfl)) hb30
  have n35 : b21 < b29 := Nat.lt_of_lt_of_le (Blk.lt hB23) hb30
  have g36 : w.heap.size ≤ b29 := Nat.le_trans (Below.size X28) hb30
  change Blk _ _ [(Iv c0), (Iv c1), (Iv c2)] at hB31
  have X37 := Ext.gr X28 E32
  show wpList _ _ _ _ (fr [(Pt g_b g_o), (.agg #[(Fl r11), (Fl r13), (Fl r15)]), (Fl st_), (.agg #[(Iv c0), (Iv c1), (Iv c2)]), (.func (.func f_f) s_f c_f), Ud, (Pt b21 0), Ud, (Pt b29 0), Ud, Ud, Ud, Ud, Ud, Ud, Ud, Ud, Ud, Ud, Ud, Ud, Ud, Ud, Ud, Ud, Ud, Ud, Ud, Ud, Ud, Ud, Ud, Ud, Ud, Ud, Ud, Ud, Ud, Ud, Ud, Ud, Ud, Ud, Ud, Ud, Ud, Ud, Ud, Ud, Ud, Ud, Ud, Ud, Ud, Ud, Ud, Ud]) _
  refine seqd rfl rfl (does_alloc z31) ?_; rintro _ w42 ⟨b38, rfl, hb39, hB40, E41⟩
  have n43 : g_b < b38 := Nat.lt_of_lt_of_le (cell_lt (Cells.at (hc_g.ext X37) 0 rfl)) hb39
  have n44 : b21 < b38 := Nat.lt_of_lt_of_le (Blk.lt (hB23.ext E32)) hb39
  have n45 : b29 < b38 := Nat.lt_of_lt_of_le (Blk.lt hB31) hb39
  have g46 : w.heap.size ≤ b38 := Nat.le_trans (Below.size X37) hb39
  change Blk _ _ [(Fl 0), (Fl 0), (Fl 0), (Fl 0), (Iv 0), (Iv 0), (Iv 0), (.slice none 0 0)] at hB40
  have X47 := Ext.gr X37 E41
  show wpList _ _ _ _ (fr [(Pt g_b g_o), (.agg #[(Fl r11), (Fl r13), (Fl r15)]), (Fl st_), (.agg #[(Iv c0), (Iv c1), (Iv c2)]), (.func (.func f_f) s_f c_f), Ud, (Pt b21 0), Ud, (Pt b29 0), Ud, (Pt b38 0), Ud, Ud, Ud, Ud, Ud, Ud, Ud, Ud, Ud, Ud, Ud, Ud, Ud, Ud, Ud, Ud, Ud, Ud, Ud, Ud, Ud, Ud, Ud, Ud, Ud, Ud, Ud, Ud, Ud, Ud, Ud, Ud, Ud, Ud, Ud, Ud, Ud, Ud, Ud, Ud, Ud, Ud, Ud, Ud, Ud, Ud]) _
  refine q_is rfl rfl (does_assign (u := (Bo false)) (ev rfl)) (by dsimp only [List.set]; try rfl) ?_
  refine wpList_nil (hK20 _ _ ?_)
  refine wp_seq_k fun K48 hK48 => ?_
  refine wp_region_lit ?_
  refine q_is rfl rfl (does_loadAgg (cs := [(Fl r11), (Fl r13), (Fl r15)]) (ev rfl) Try.isAgg29 Try.sizeOf29 (Blk.cells ((hB23.ext E32).ext E41)) rfl) (by dsimp only [List.set]; try rfl) ?_
  refine q_is rfl rfl (does_move (u := (Fl st_)) (ev rfl)) (by dsimp only [List.set]; try rfl) ?_
  refine q_is rfl rfl (does_indexAt_run (r := (Pt b29 0)) (ev rfl) (ev rfl) (fun w => ia55_0 _ _ w)) (by dsimp only [List.set]; try rfl) ?_
  refine q_is rfl rfl (does_load (u := (Iv c0)) (ev rfl) Try.isAgg2 (Cells.at (Blk.cells (hB31.ext E41)) 0 rfl)) (by dsimp only [List.set]; try rfl) ?_
  refine q_is rfl rfl (does_indexAt_run (r := (Pt b29 1)) (ev rfl) (ev rfl) (fun w => ia55_1 _ _ w)) (by dsimp only [List.set]; try rfl) ?_
  refine q_is rfl rfl (does_load (u := (Iv c1)) (ev rfl) Try.isAgg2 (Cells.at (Blk.cells (hB31.ext E41)) 1 rfl)) (by dsimp only [List.set]; try rfl) ?_
  refine q_is rfl rfl (does_indexAt_run (r := (Pt b29 2)) (ev rfl) (ev rfl) (fun w => ia55_2 _ _ w)) (by dsimp only [List.set]; try rfl) ?_
  refine q_is rfl rfl (does_load (u := (Iv c2)) (ev rfl) Try.isAgg2 (Cells.at (Blk.cells (hB31.ext E41)) 2 rfl)) (by dsimp only [List.set]; try rfl) ?_
  refine q_is rfl rfl (does_build (parts' := [(0, (.agg #[(Fl r11), (Fl r13), (Fl r15)])), (1, (Fl st_)), (2, (Iv c0)), (3, (Iv c1)), (4, (Iv c2))]) (cells := #[(Fl r11), (Fl r13), (Fl r15), (Fl st_), (Iv c0), (Iv c1), (Iv c2), (.slice none 0 0)]) (evp rfl) (by kernel_rfl)) (by dsimp only [List.set]; try rfl) ?_
  refine seqd rfl rfl (does_alloc z31) ?_; rintro _ w53 ⟨b49, rfl, hb50, hB51, E52⟩
  have n54 : g_b < b49 := Nat.lt_of_lt_of_le (cell_lt (Cells.at (hc_g.ext X47) 0 rfl)) hb50
  have n55 : b21 < b49 := Nat.lt_of_lt_of_le (Blk.lt ((hB23.ext E32).ext E41)) hb50
  have n56 : b29 < b49 := Nat.lt_of_lt_of_le (Blk.lt (hB31.ext E41)) hb50
  have n57 : b38 < b49 := Nat.lt_of_lt_of_le (Blk.lt hB40) hb50
  have g58 : w.heap.size ≤ b49 := Nat.le_trans (Below.size X47) hb50
  change Blk _ _ [(Fl 0), (Fl 0), (Fl 0), (Fl 0), (Iv 0), (Iv 0), (Iv 0), (.slice none 0 0)] at hB51
  have X59 := Ext.gr X47 E52
  show wpList _ _ _ _ (fr [(Pt g_b g_o), (.agg #[(Fl r11), (Fl r13), (Fl r15)]), (Fl st_), (.agg #[(Iv c0), (Iv c1), (Iv c2)]), (.func (.func f_f) s_f c_f), Ud, (Pt b21 0), Ud, (Pt b29 0), Ud, (Pt b38 0), (Bo false), (Pt b49 0), Ud, (.agg #[(Fl r11), (Fl r13), (Fl r15)]), (Fl st_), (Pt b29 0), (Iv c0), (Pt b29 1), (Iv c1), (Pt b29 2), (Iv c2), (.agg #[(Fl r11), (Fl r13), (Fl r15), (Fl st_), (Iv c0), (Iv c1), (Iv c2), (.slice none 0 0)]), Ud, Ud, Ud, Ud, Ud, Ud, Ud, Ud, Ud, Ud, Ud, Ud, Ud, Ud, Ud, Ud, Ud, Ud, Ud, Ud, Ud, Ud, Ud, Ud, Ud, Ud, Ud, Ud, Ud, Ud, Ud, Ud, Ud, Ud]) _
  refine seqn rfl rfl (does_store (n := 8) (cs := [(Fl 0), (Fl 0), (Fl 0), (Fl 0), (Iv 0), (Iv 0), (Iv 0), (.slice none 0 0)]) (u := (.agg #[(Fl r11), (Fl r13), (Fl r15), (Fl st_), (Iv c0), (Iv c1), (Iv c2), (.slice none 0 0)])) (ev rfl) (ev rfl) Try.sizeOf31 rfl hB51 (Nat.le_of_ble_eq_true rfl) rfl) ?_; rintro _ w62 ⟨rfl, W60, hB61⟩
  change Blk _ _ [(Fl r11), (Fl r13), (Fl r15), (Fl st_), (Iv c0), (Iv c1), (Iv c2), (.slice none 0 0)] at hB61
  have X63 := Below.wr X59 W60 g58
  refine wpList_nil (hK48 _ _ ?_)
  refine wp_seq_k fun K64 hK64 => ?_
  refine wp_seq_k fun K65 hK65 => ?_
  refine wp_region_lit ?_
  refine q_is rfl rfl (does_indexAt_run (r := (Pt b29 0)) (ev rfl) (ev rfl) (fun w => ia55_0 _ _ w)) (by dsimp only [List.set]; try rfl) ?_
  refine q_is rfl rfl (does_load (u := (Iv c0)) (ev rfl) Try.isAgg2 (Cells.at (Blk.cells (((hB31.ext E41).ext E52).wr W60 (Nat.ne_of_lt n56))) 0 rfl)) (by dsimp only [List.set]; try rfl) ?_
  refine q_is rfl rfl (does_indexAt_run (r := (Pt b29 1)) (ev rfl) (ev rfl) (fun w => ia55_1 _ _ w)) (by dsimp only [List.set]; try rfl) ?_
  refine q_is rfl rfl (does_load (u := (Iv c1)) (ev rfl) Try.isAgg2 (Cells.at (Blk.cells (((hB31.ext E41).ext E52).wr W60 (Nat.ne_of_lt n56))) 1 rfl)) (by dsimp only [List.set]; try rfl) ?_
  refine q_is rfl rfl (does_iarith (p := c0) (q := c1) (r := c0 * c1) (ev rfl) (ev rfl) (.inr (.inr ⟨rfl, (in_i64 (by omega) (by omega)).symm⟩))) (by dsimp only [List.set]; try rfl) ?_
  refine q_is rfl rfl (does_indexAt_run (r := (Pt b29 2)) (ev rfl) (ev rfl) (fun w => ia55_2 _ _ w)) (by dsimp only [List.set]; try rfl) ?_
  refine q_is rfl rfl (does_load (u := (Iv c2)) (ev rfl) Try.isAgg2 (Cells.at (Blk.cells (((hB31.ext E41).ext E52).wr W60 (Nat.ne_of_lt n56))) 2 rfl)) (by dsimp only [List.set]; try rfl) ?_
  refine q_is rfl rfl (does_iarith (p := c0 * c1) (q := c2) (r := (c0 * c1) * c2) (ev rfl) (ev rfl) (.inr (.inr ⟨rfl, (in_i64 (by omega) (by omega)).symm⟩))) (by dsimp only [List.set]; try rfl) ?_
  refine q_is rfl rfl (does_move (u := (Iv 0)) (ev rfl)) (by dsimp only [List.set]; try rfl) ?_
  refine wpList_nil (hK65 _ _ ?_)
  refine wp_block ?_
  have n67 : g_b < w62.heap.size := cell_lt (Cells.at (hc_g.ext X63) 0 rfl)
  have n68 : b21 < w62.heap.size := Blk.lt ((((hB23.ext E32).ext E41).ext E52).wr W60 (Nat.ne_of_lt n55))
  have n69 : b29 < w62.heap.size := Blk.lt (((hB31.ext E41).ext E52).wr W60 (Nat.ne_of_lt n56))
  have n70 : b38 < w62.heap.size := Blk.lt ((hB40.ext E52).wr W60 (Nat.ne_of_lt n57))
  have n71 : b49 < w62.heap.size := Blk.lt hB61
  obtain ⟨gg72, hg73, hg74, hO75⟩ := Own.start' (Own.nil (R := RF) (k := 1) (e := 22) (g0 := w62.heap.size) (B := w62.heap.size) (w := w62)) (Own.nil (R := RF) (k := 1) (e := 22) (g0 := w62.heap.size) (B := w62.heap.size) (w := w62))
  have hN76 : w62.heap.size ≤ gg72 := by rcases hg73 with h | h; exact h ▸ (Nat.le_refl _); exact Nat.le_trans (Nat.le_refl _) h
  have g77 : w.heap.size ≤ gg72 := Nat.le_trans (Below.size X63) hN76
  refine loop_ghost (σ := Nat) (fun k a w' => ∃ u66 : Nat → Value, ∃ y12_7 : Value, a = fr [(Pt g_b g_o), (.agg #[(Fl r11), (Fl r13), (Fl r15)]), (Fl st_), (.agg #[(Iv c0), (Iv c1), (Iv c2)]), (.func (.func f_f) s_f c_f), Ud, (Pt b21 0), Ud, (Pt b29 0), Ud, (Pt b38 0), (Bo false), (Pt b49 0), (u66 13), (.agg #[(Fl r11), (Fl r13), (Fl r15)]), (Fl st_), (Pt b29 0), (Iv c0), (Pt b29 1), (Iv c1), (Pt b29 2), (Iv c2), (.agg #[(Fl r11), (Fl r13), (Fl r15), (Fl st_), (Iv c0), (Iv c1), (Iv c2), (.slice none 0 0)]), (Pt b29 0), (Iv c0), (Pt b29 1), (Iv c1), (Iv (c0 * c1)), (Pt b29 2), (Iv c2), (Iv ((c0 * c1) * c2)), (Iv (k : Int)), (u66 32), (u66 33), (u66 34), (u66 35), (u66 36), (u66 37), (u66 38), (u66 39), (u66 40), (u66 41), (u66 42), (u66 43), (u66 44), (u66 45), (u66 46), (u66 47), (u66 48), (u66 49), (u66 50), (u66 51), Ud, Ud, Ud, Ud, Ud] ∧ KpL [gg72, b49] w62 w' ∧ Own RF 1 22 gg72 w62.heap.size w' y12_7 (takG A_g (fun x y z => idxG A_g (p0_f x y z) (p1_f x y z) (p2_f x y z)) c0 c1 k) ∧ Blk w' b49 [(Fl r11), (Fl r13), (Fl r15), (Fl st_), (Iv c0), (Iv c1), (Iv c2), y12_7] ∧ ((k : Int) ≤ c0 * c1 * c2)) (fun k => (c0 * c1 * c2).toNat - k) 0 ?_ ?_
  · refine ⟨fun t => (([(Pt g_b g_o), (.agg #[(Fl r11), (Fl r13), (Fl r15)]), (Fl st_), (.agg #[(Iv c0), (Iv c1), (Iv c2)]), (.func (.func f_f) s_f c_f), Ud, (Pt b21 0), Ud, (Pt b29 0), Ud, (Pt b38 0), (Bo false), (Pt b49 0), Ud, (.agg #[(Fl r11), (Fl r13), (Fl r15)]), (Fl st_), (Pt b29 0), (Iv c0), (Pt b29 1), (Iv c1), (Pt b29 2), (Iv c2), (.agg #[(Fl r11), (Fl r13), (Fl r15), (Fl st_), (Iv c0), (Iv c1), (Iv c2), (.slice none 0 0)]), (Pt b29 0), (Iv c0), (Pt b29 1), (Iv c1), (Iv (c0 * c1)), (Pt b29 2), (Iv c2), (Iv ((c0 * c1) * c2)), (Iv 0), Ud, Ud, Ud, Ud, Ud, Ud, Ud, Ud, Ud, Ud, Ud, Ud, Ud, Ud, Ud, Ud, Ud, Ud, Ud, Ud, Ud, Ud, Ud, Ud, Ud] : List Value)[t]?).getD undef, (.slice none 0 0), rfl, KpL.refl _ _, (Own.cast hO75 (by rfl)), hB61, ?_⟩
    exact hvl.2.1
  · rintro k a w78 ⟨u66, y12_7, rfl, E79, hO81, hB82, hk⟩
    have X83 := Below.kl X63 E79 (allS g77 (allS g58 all0)) (Nat.le_refl _)
    obtain ⟨p84, q85, rfl⟩ := Own.shape hO81
    have hH86 : Hang w62.heap.size w78 (fun u => Sl RF 1 u (.slice p84 ((takG A_g (fun x y z => idxG A_g (p0_f x y z) (p1_f x y z) (p2_f x y z)) c0 c1 k).length) q85) (takG A_g (fun x y z => idxG A_g (p0_f x y z) (p1_f x y z) (p2_f x y z)) c0 c1 k)) := Own.hang hO81 RF.flat (by decide) hN76 (Nat.le_refl _)
    have htl := takG_len A_g (fun x y z => idxG A_g (p0_f x y z) (p1_f x y z) (p2_f x y z)) c0 c1 k
    refine wp_seq_k fun K87 hK87 => ?_
    refine wp_region_lit ?_
    refine q_is rfl rfl (does_icmp (p := (k : Int)) (q := (c0 * c1) * c2) (.inr (.inr (.inl rfl))) (ev rfl) (ev rfl)) (by dsimp only [List.set]; try rfl) ?_
    refine wpList_nil (hK87 _ _ ?_)
    refine wp_seq_k fun K88 hK88 => ?_
    refine wp_cond_split (t := icmp .lss (k : Int) ((c0 * c1) * c2)) (ev rfl) (fun c89 => ?_) (fun c89 => ?_)
    · have c89' := c89
      (try simp only [icmp, Bool.and_eq_true, Bool.or_eq_true, Bool.and_eq_false_iff, Bool.or_eq_false_iff, Bool.not_eq_true', Bool.not_eq_false', decide_eq_true_eq, decide_eq_false_iff_not, beq_iff_eq, bne_iff_ne, beq_eq_false_iff_ne, bne_eq_false_iff_eq] at c89')
      refine wp_skip (hK88 _ _ ?_)
      refine wp_seq_k fun K90 hK90 => ?_
      refine wp_block ?_
      refine wp_seq_k fun K91 hK91 => ?_
      refine wp_region_lit ?_
      refine q_is rfl rfl (does_move (u := (Iv (k : Int))) (ev rfl)) (by dsimp only [List.set]; try rfl) ?_
      refine q_is rfl rfl (does_assign (u := (Iv (k : Int))) (ev rfl)) (by dsimp only [List.set]; try rfl) ?_
      refine wpList_nil (hK91 _ _ ?_)
      have hpb := place_in (c0 := c0) (c1 := c1) (c2 := c2) (k := k) hc0 hc1 (by omega)
      have hix := hin _ _ _ hpb.1 hpb.2.1 hpb.2.2
      obtain ⟨el1, hel1⟩ : ∃ e, A_g.vals[(idxG A_g (p0_f ((k : Int) % c0) ((k : Int) / c0 % c1) ((k : Int) / c0 / c1)) (p1_f ((k : Int) % c0) ((k : Int) / c0 % c1) ((k : Int) / c0 / c1)) (p2_f ((k : Int) % c0) ((k : Int) / c0 % c1) ((k : Int) / c0 / c1))).toNat]? = some e := ⟨_, List.getElem?_eq_getElem (by omega)⟩
      refine region_any2 [] [0, 1, 0, 4, 12, 28, 0, 0, 0, 256, 896, 1984, 4092, 8188, 16380, 32767, 65535, 131071] [] (
        [FactW.pure [] [] [] true (fun v => v = (Pt b49 7)),
          FactW.pure [0] [] [] true (fun v => v = (.slice p84 ((takG A_g (fun x y z => idxG A_g (p0_f x y z) (p1_f x y z) (p2_f x y z)) c0 c1 k).length) q85)),
          FactW.pure [] [] [] true (fun v => v = (Pt g_b g_o)),
          FactW.pure [2] [] [] true (fun v => v = (Pt g_b g_o)),
          FactW.pure [3] [] [] true (fun v => v = (Pt g_b (g_o + 7))),
          FactW.pure [4] [] [] true (fun v => v = (.slice p17 A_g.vals.length q18)),
          FactW.pure [] [] [] true (fun v => v = (Pt g_b g_o)),
          FactW.pure [] [] [] true (fun v => v = (.func (.func f_f) s_f c_f)),
          FactW.pure [] [] [] true (fun v => v = (Iv (k : Int))),
          FactW.pure [8] [] [] true (fun v => v = (.agg #[(Iv ((k : Int) % c0)), (Iv ((k : Int) / c0 % c1)), (Iv ((k : Int) / c0 / c1))])),
          FactW.pure [9, 7] [] [] true (fun v => v = (.agg #[(Iv (p0_f ((k : Int) % c0) ((k : Int) / c0 % c1) ((k : Int) / c0 / c1))), (Iv (p1_f ((k : Int) % c0) ((k : Int) / c0 % c1) ((k : Int) / c0 / c1))), (Iv (p2_f ((k : Int) % c0) ((k : Int) / c0 % c1) ((k : Int) / c0 / c1)))])),
          FactW.pure [6, 10] [] [] true (fun v => v = (Iv (idxG A_g (p0_f ((k : Int) % c0) ((k : Int) / c0 % c1) ((k : Int) / c0 / c1)) (p1_f ((k : Int) % c0) ((k : Int) / c0 % c1) ((k : Int) / c0 / c1)) (p2_f ((k : Int) % c0) ((k : Int) / c0 % c1) ((k : Int) / c0 / c1))))),
          FactW.mem [5, 11] [] [] [] true (fun v w' => PtrR RF w' v el1) (by intro v w1 w2 hx' h; have hx := KpL.toExt hx'; exact h.ext RF.mono hx),
          FactW.pure [12] [] [] true (fun v => ∃ r_1 : Nat, v = (Fl r_1) ∧ cf .f32 r_1 = el1),
          FactW.mem [13] [] [] [] true (fun v w' => ∃ b : Nat, ∃ r_1 : Nat, v = .slice (some ⟨b, 0, none⟩) 1 1 ∧ w78.heap.size ≤ b ∧ Blk w' b [(Fl r_1)] ∧ cf .f32 r_1 = el1) (by rintro v w1 w2 hx' ⟨b, z0, rfl, hb, hB, k0⟩; have hx := KpL.toExt hx'; exact ⟨b, z0, rfl, hb, (hB.ext hx), k0⟩)]) mixed (by kernel_rfl) ?_
      obtain ⟨w92, hw94⟩ : ∃ w', w' = World.drew w78 := ⟨_, rfl⟩; rw [← hw94]; have E93 : Ext w78 w92 := by rw [hw94]; exact Ext.draw _
      clear hw94
      have X95 := Ext.gr X83 E93
      refine RW2_d _ rfl (fun v => by dsimp only [List.set]; try rfl) (fun u hu hF => ?_) (fun v96 => ?_)
      · replace hu : KpL [] _ _ := hu
        clear hF
        refine doesG_un rfl ?_
        refine (does_fieldAddr (ev rfl) fa31_5).mono ?_; rintro _ _ ⟨rfl, rfl⟩
        exact ⟨rfl, KpL.refl _ _⟩
      refine RW2_d _ rfl (fun v => by dsimp only [List.set]; try rfl) (fun u hu hF => ?_) (fun v97 => ?_)
      · replace hu : KpL [] _ _ := hu
        have h34_ : v96 = (Pt b49 7) := hF.1
        clear hF
        refine doesG_un rfl ?_
        obtain rfl := h34_
        refine (does_load (u := (.slice p84 ((takG A_g (fun x y z => idxG A_g (p0_f x y z) (p1_f x y z) (p2_f x y z)) c0 c1 k).length) q85)) (ev rfl) Try.isAgg25 (Cells.at (Blk.cells ((hB82.ext E93).ext (KpL.toExt hu))) 7 rfl)).mono ?_; rintro _ _ ⟨rfl, rfl⟩
        exact ⟨rfl, KpL.refl _ _⟩
      refine RW2_d _ rfl (fun v => by dsimp only [List.set]; try rfl) (fun u hu hF => ?_) (fun v98 => ?_)
      · replace hu : KpL [] _ _ := hu
        clear hF
        refine doesG_un rfl ?_
        refine (does_move (u := (Pt g_b g_o)) (ev rfl)).mono ?_; rintro _ _ ⟨rfl, rfl⟩
        exact ⟨rfl, KpL.refl _ _⟩
      refine RW2_d _ rfl (fun v => by dsimp only [List.set]; try rfl) (fun u hu hF => ?_) (fun v99 => ?_)
      · replace hu : KpL [] _ _ := hu
        have h36_ : v98 = (Pt g_b g_o) := hF.1
        clear hF
        refine doesG_un rfl ?_
        obtain rfl := h36_
        refine (does_nilCheck (ev rfl)).mono ?_; rintro _ _ ⟨rfl, rfl⟩
        exact ⟨rfl, KpL.refl _ _⟩
      refine RW2_d _ rfl (fun v => by dsimp only [List.set]; try rfl) (fun u hu hF => ?_) (fun v100 => ?_)
      · replace hu : KpL [] _ _ := hu
        have h37_ : v99 = (Pt g_b g_o) := hF.1
        clear hF
        refine doesG_un rfl ?_
        obtain rfl := h37_
        refine (does_fieldAddr (ev rfl) fa31_5).mono ?_; rintro _ _ ⟨rfl, rfl⟩
        exact ⟨rfl, KpL.refl _ _⟩
      refine RW2_d _ rfl (fun v => by dsimp only [List.set]; try rfl) (fun u hu hF => ?_) (fun v101 => ?_)
      · replace hu : KpL [] _ _ := hu
        have h38_ : v100 = (Pt g_b (g_o + 7)) := hF.1
        clear hF
        refine doesG_un rfl ?_
        obtain rfl := h38_
        refine (does_load (u := (.slice p17 A_g.vals.length q18)) (ev rfl) Try.isAgg25 (Cells.at (hc_g.ext (Ext.gr (Ext.gr X83 E93) (KpL.toExt hu))) 7 rfl)).mono ?_; rintro _ _ ⟨rfl, rfl⟩
        exact ⟨rfl, KpL.refl _ _⟩
      refine RW2_d _ rfl (fun v => by dsimp only [List.set]; try rfl) (fun u hu hF => ?_) (fun v102 => ?_)
      · replace hu : KpL [] _ _ := hu
        clear hF
        refine doesG_un rfl ?_
        refine (does_move (u := (Pt g_b g_o)) (ev rfl)).mono ?_; rintro _ _ ⟨rfl, rfl⟩
        exact ⟨rfl, KpL.refl _ _⟩
      refine RW2_d _ rfl (fun v => by dsimp only [List.set]; try rfl) (fun u hu hF => ?_) (fun v103 => ?_)
      · replace hu : KpL [] _ _ := hu
        clear hF
        refine doesG_un rfl ?_
        refine (does_move (u := (.func (.func f_f) s_f c_f)) (ev rfl)).mono ?_; rintro _ _ ⟨rfl, rfl⟩
        exact ⟨rfl, KpL.refl _ _⟩
      refine RW2_d _ rfl (fun v => by dsimp only [List.set]; try rfl) (fun u hu hF => ?_) (fun v104 => ?_)
      · replace hu : KpL [] _ _ := hu
        clear hF
        refine doesG_un rfl ?_
        refine (does_move (u := (Iv (k : Int))) (ev rfl)).mono ?_; rintro _ _ ⟨rfl, rfl⟩
        exact ⟨rfl, KpL.refl _ _⟩
      refine RW2_d _ rfl (fun v => by dsimp only [List.set]; try rfl) (fun u hu hF => ?_) (fun v105 => ?_)
      · replace hu : KpL [] _ _ := hu
        have h42_ : v104 = (Iv (k : Int)) := hF.1
        clear hF
        refine doesG_un rfl ?_
        obtain rfl := h42_
        refine (does_call (args := #[(Pt b49 0), (Iv (k : Int))]) cal53 (evs rfl) (c_impl_Grid_place b49 0 [(Fl r11), (Fl r13), (Fl r15), (Fl st_), (Iv c0), (Iv c1), (Iv c2), (.slice p84 ((takG A_g (fun x y z => idxG A_g (p0_f x y z) (p1_f x y z) (p2_f x y z)) c0 c1 k).length) q85)] (GridT.mk A_low (cf .f32 st_) c0 c1 c2 (takG A_g (fun x y z => idxG A_g (p0_f x y z) (p1_f x y z) (p2_f x y z)) c0 c1 k)) (k : Int) _ (Blk.cells ((hB82.ext E93).ext (KpL.toExt hu))) ⟨r11, r13, r15, st_, (.slice p84 ((takG A_g (fun x y z => idxG A_g (p0_f x y z) (p1_f x y z) (p2_f x y z)) c0 c1 k).length) q85), rfl, h12, h14, h16, rfl, (hH86 _ (((Same.refl _ _).ext E93).ext (KpL.toExt hu)))⟩ (by (try dsimp only); omega) (by (try dsimp only); omega) (by omega))).mono ?_; rintro v u' ⟨hx, hv⟩
        exact ⟨hv, (KpL.of_ext hx)⟩
      refine RW2_d _ rfl (fun v => by dsimp only [List.set]; try rfl) (fun u hu hF => ?_) (fun v106 => ?_)
      · replace hu : KpL [] _ _ := hu
        have h43_ : v105 = (.agg #[(Iv ((k : Int) % c0)), (Iv ((k : Int) / c0 % c1)), (Iv ((k : Int) / c0 / c1))]) := hF.1
        have h41_ : v103 = (.func (.func f_f) s_f c_f) := hF.2.1
        clear hF
        refine doesG_un rfl ?_
        obtain rfl := h43_
        obtain rfl := h41_
        refine (does_callf (args := #[(.agg #[(Iv ((k : Int) % c0)), (Iv ((k : Int) / c0 % c1)), (Iv ((k : Int) / c0 / c1))])]) (ev rfl) hcal_f (evs rfl) (hg_f ((k : Int) % c0) ((k : Int) / c0 % c1) ((k : Int) / c0 / c1) _ (Ext.gr (Ext.gr X83 E93) (KpL.toExt hu)))).mono ?_; rintro v u' ⟨hx, hv⟩
        exact ⟨hv, (KpL.of_ext hx)⟩
      refine RW2_d _ rfl (fun v => by dsimp only [List.set]; try rfl) (fun u hu hF => ?_) (fun v107 => ?_)
      · replace hu : KpL [] _ _ := hu
        have h40_ : v102 = (Pt g_b g_o) := hF.1
        have h44_ : v106 = (.agg #[(Iv (p0_f ((k : Int) % c0) ((k : Int) / c0 % c1) ((k : Int) / c0 / c1))), (Iv (p1_f ((k : Int) % c0) ((k : Int) / c0 % c1) ((k : Int) / c0 / c1))), (Iv (p2_f ((k : Int) % c0) ((k : Int) / c0 % c1) ((k : Int) / c0 / c1)))]) := hF.2.1
        clear hF
        refine doesG_un rfl ?_
        obtain rfl := h40_
        obtain rfl := h44_
        refine (does_call (args := #[(Pt g_b g_o), (.agg #[(Iv (p0_f ((k : Int) % c0) ((k : Int) / c0 % c1) ((k : Int) / c0 / c1))), (Iv (p1_f ((k : Int) % c0) ((k : Int) / c0 % c1) ((k : Int) / c0 / c1))), (Iv (p2_f ((k : Int) % c0) ((k : Int) / c0 % c1) ((k : Int) / c0 / c1)))])]) cal52 (evs rfl) (c_impl_Grid_index g_b g_o [(Fl r1), (Fl r3), (Fl r5), (Fl r7), (Iv A_g.x), (Iv A_g.y), (Iv A_g.z), (.slice p17 A_g.vals.length q18)] A_g (p0_f ((k : Int) % c0) ((k : Int) / c0 % c1) ((k : Int) / c0 / c1)) (p1_f ((k : Int) % c0) ((k : Int) / c0 % c1) ((k : Int) / c0 / c1)) (p2_f ((k : Int) % c0) ((k : Int) / c0 % c1) ((k : Int) / c0 / c1)) _ (hc_g.ext (Ext.gr (Ext.gr X83 E93) (KpL.toExt hu))) ⟨r1, r3, r5, r7, (.slice p17 A_g.vals.length q18), rfl, h2, h4, h6, h8, (Sl.ext hs19 RF.mono (Ext.gr (Ext.gr X83 E93) (KpL.toExt hu)))⟩)).mono ?_; rintro v u' ⟨hx, hv⟩
        exact ⟨hv, (KpL.of_ext hx)⟩
      refine RW2_d _ rfl (fun v => by dsimp only [List.set]; try rfl) (fun u hu hF => ?_) (fun v108 => ?_)
      · replace hu : KpL [] _ _ := hu
        have h39_ : v101 = (.slice p17 A_g.vals.length q18) := hF.1
        have h45_ : v107 = (Iv (idxG A_g (p0_f ((k : Int) % c0) ((k : Int) / c0 % c1) ((k : Int) / c0 / c1)) (p1_f ((k : Int) % c0) ((k : Int) / c0 % c1) ((k : Int) / c0 / c1)) (p2_f ((k : Int) % c0) ((k : Int) / c0 % c1) ((k : Int) / c0 / c1)))) := hF.2.1
        clear hF
        refine doesG_un rfl ?_
        obtain rfl := h39_
        obtain rfl := h45_
        refine (does_indexSl (R := RF) (i := idxG A_g (p0_f ((k : Int) % c0) ((k : Int) / c0 % c1) ((k : Int) / c0 / c1)) (p1_f ((k : Int) % c0) ((k : Int) / c0 % c1) ((k : Int) / c0 / c1)) (p2_f ((k : Int) % c0) ((k : Int) / c0 % c1) ((k : Int) / c0 / c1))) (xs := A_g.vals) (e := el1) Try.underlying25 Try.sizeOf22 (ev rfl) (ev rfl) (Sl.ext hs19 RF.mono (Ext.gr (Ext.gr X83 E93) (KpL.toExt hu))) (by omega) hel1).mono ?_; rintro v u' ⟨b, of, cs, hv, hc, hR, hu'⟩; subst hu'
        exact ⟨⟨b, of, cs, hv, hc, hR⟩, KpL.refl _ _⟩
      refine RW2_d _ rfl (fun v => by dsimp only [List.set]; try rfl) (fun u hu hF => ?_) (fun v109 => ?_)
      · replace hu : KpL [] _ _ := hu
        have h46_ : PtrR RF u v108 el1 := hF.1
        clear hF
        refine doesG_un rfl ?_
        obtain ⟨b46_, o46_, _, rfl, hc46_, ⟨r46_1, rfl, h46_2⟩⟩ := h46_
        refine (does_load (u := (Fl r46_1)) (ev rfl) Try.isAgg22 (Cells.at hc46_ 0 rfl)).mono ?_; rintro _ _ ⟨rfl, rfl⟩
        exact ⟨⟨r46_1, rfl, (by simp only [h46_2])⟩, KpL.refl _ _⟩
      refine RW2_d _ rfl (fun v => by dsimp only [List.set]; try rfl) (fun u hu hF => ?_) (fun v110 => ?_)
      · replace hu : KpL [] _ _ := hu
        have h47_ : ∃ r_1 : Nat, v109 = (Fl r_1) ∧ cf .f32 r_1 = el1 := hF.1
        clear hF
        refine doesG_un rfl ?_
        obtain ⟨r47_1, rfl, h47_2⟩ := h47_
        refine (does_buildSlice (e := 22) (parts' := [(0, (Fl r47_1))]) (cells := [(Fl r47_1)]) (evp rfl) (fun _ => by kernel_rfl)).mono ?_; rintro _ _ ⟨b, rfl, hb, hB, hx⟩
        exact ⟨⟨b, r47_1, rfl, Nat.le_trans (Nat.le_trans (Below.size E93) (KpL.size hu)) hb, hB, (by simp only [h47_2])⟩, (KpL.of_ext hx)⟩
      refine RW2_fin ?_; intro w111 E112 hP113; replace E112 : KpL [] _ _ := E112
      obtain ⟨⟨⟨⟨⟨⟨⟨⟨⟨⟨⟨⟨⟨⟨⟨-, -⟩, q114⟩, -⟩, -⟩, -⟩, -⟩, -⟩, -⟩, -⟩, -⟩, -⟩, -⟩, -⟩, -⟩, q115⟩ := hP113
      have X116 := Below.kl X95 E112 all0 (Nat.le_refl _)
      have q114 : v97 = (.slice p84 ((takG A_g (fun x y z => idxG A_g (p0_f x y z) (p1_f x y z) (p2_f x y z)) c0 c1 k).length) q85) := q114 rfl
      obtain rfl := q114
      have q115 : ∃ b : Nat, ∃ r_1 : Nat, v110 = .slice (some ⟨b, 0, none⟩) 1 1 ∧ w78.heap.size ≤ b ∧ Blk w111 b [(Fl r_1)] ∧ cf .f32 r_1 = el1 := q115 rfl
      obtain ⟨b117, r120, rfl, hb118, hB119, h121⟩ := q115
      have n122 : g_b < b117 := Nat.lt_of_lt_of_le (cell_lt (Cells.at (hc_g.ext X83) 0 rfl)) hb118
      have n123 : b21 < b117 := Nat.lt_of_lt_of_le (Blk.lt (((((hB23.ext E32).ext E41).ext E52).wr W60 (Nat.ne_of_lt n55)).kl E79 (ninS (Nat.ne_of_lt (Nat.lt_of_lt_of_le n68 hN76)) (ninS (Nat.ne_of_lt n55) nin0)))) hb118
      have n124 : b29 < b117 := Nat.lt_of_lt_of_le (Blk.lt ((((hB31.ext E41).ext E52).wr W60 (Nat.ne_of_lt n56)).kl E79 (ninS (Nat.ne_of_lt (Nat.lt_of_lt_of_le n69 hN76)) (ninS (Nat.ne_of_lt n56) nin0)))) hb118
      have n125 : b38 < b117 := Nat.lt_of_lt_of_le (Blk.lt (((hB40.ext E52).wr W60 (Nat.ne_of_lt n57)).kl E79 (ninS (Nat.ne_of_lt (Nat.lt_of_lt_of_le n70 hN76)) (ninS (Nat.ne_of_lt n57) nin0)))) hb118
      have n126 : b49 < b117 := Nat.lt_of_lt_of_le (Blk.lt hB82) hb118
      have g127 : w.heap.size ≤ b117 := Nat.le_trans (Below.size X83) hb118
      show wpList _ _ _ _ (fr [(Pt g_b g_o), (.agg #[(Fl r11), (Fl r13), (Fl r15)]), (Fl st_), (.agg #[(Iv c0), (Iv c1), (Iv c2)]), (.func (.func f_f) s_f c_f), Ud, (Pt b21 0), Ud, (Pt b29 0), Ud, (Pt b38 0), (Bo false), (Pt b49 0), (Iv (k : Int)), (.agg #[(Fl r11), (Fl r13), (Fl r15)]), (Fl st_), (Pt b29 0), (Iv c0), (Pt b29 1), (Iv c1), (Pt b29 2), (Iv c2), (.agg #[(Fl r11), (Fl r13), (Fl r15), (Fl st_), (Iv c0), (Iv c1), (Iv c2), (.slice none 0 0)]), (Pt b29 0), (Iv c0), (Pt b29 1), (Iv c1), (Iv (c0 * c1)), (Pt b29 2), (Iv c2), (Iv ((c0 * c1) * c2)), (Iv (k : Int)), (Bo (icmp .lss (k : Int) ((c0 * c1) * c2))), (Iv (k : Int)), v96, (.slice p84 ((takG A_g (fun x y z => idxG A_g (p0_f x y z) (p1_f x y z) (p2_f x y z)) c0 c1 k).length) q85), v98, v99, v100, v101, v102, v103, v104, v105, v106, v107, v108, v109, (.slice (some ⟨b117, 0, none⟩) 1 1), (u66 49), (u66 50), (u66 51), Ud, Ud, Ud, Ud, Ud]) _
      refine seqd rfl rfl (does_append (R := RF) (k := 1) (g0 := gg72) (B := w62.heap.size) (xs := (takG A_g (fun x y z => idxG A_g (p0_f x y z) (p1_f x y z) (p2_f x y z)) c0 c1 k)) (ys := [(cf .f32 r120)]) Try.underlying25 inf22 rfl (by decide) (ev rfl) (ev rfl) (Own.same hO81 RF.flat (((Same.refl _ _).ext E93).kl E112 all0) hN76 (Nat.le_refl _)) RF.flat hB119 rfl rfl rfl (fun i x hi => lit1 (R := RF) (cs := [(Fl r120)]) (y := (cf .f32 r120))  (⟨_, rfl, rfl⟩) i x hi) (by first | (simp only [List.length_append, List.length_cons, List.length_nil]; omega) | omega) (Nat.le_trans (Nat.le_trans (KpL.size E79) (Below.size E93)) (KpL.size E112))) ?_; rintro y' w128 ⟨gg129, hg130, K131, hO132⟩
      have hN133 : w62.heap.size ≤ gg129 := by rcases hg130 with h | h; exact h ▸ hN76; exact Nat.le_trans (Nat.le_refl _) h
      have g134 : w.heap.size ≤ gg129 := Nat.le_trans (Below.size (Below.wr (Ext.gr (Ext.gr (Ext.gr (Ext.gr (Ext.refl _) E24) E32) E41) E52) W60 g58)) hN133
      have X135 := Below.kl X116 K131 (allS g134 all0) (Nat.le_refl _)
      obtain ⟨p136, q137, rfl⟩ := Own.shape hO132
      have hH138 : Hang w62.heap.size w128 (fun u => Sl RF 1 u (.slice p136 (((takG A_g (fun x y z => idxG A_g (p0_f x y z) (p1_f x y z) (p2_f x y z)) c0 c1 k) ++ [(cf .f32 r120)]).length) q137) ((takG A_g (fun x y z => idxG A_g (p0_f x y z) (p1_f x y z) (p2_f x y z)) c0 c1 k) ++ [(cf .f32 r120)])) := Own.hang hO132 RF.flat (by decide) hN76 (Nat.le_refl _)
      show wpList _ _ _ _ (fr [(Pt g_b g_o), (.agg #[(Fl r11), (Fl r13), (Fl r15)]), (Fl st_), (.agg #[(Iv c0), (Iv c1), (Iv c2)]), (.func (.func f_f) s_f c_f), Ud, (Pt b21 0), Ud, (Pt b29 0), Ud, (Pt b38 0), (Bo false), (Pt b49 0), (Iv (k : Int)), (.agg #[(Fl r11), (Fl r13), (Fl r15)]), (Fl st_), (Pt b29 0), (Iv c0), (Pt b29 1), (Iv c1), (Pt b29 2), (Iv c2), (.agg #[(Fl r11), (Fl r13), (Fl r15), (Fl st_), (Iv c0), (Iv c1), (Iv c2), (.slice none 0 0)]), (Pt b29 0), (Iv c0), (Pt b29 1), (Iv c1), (Iv (c0 * c1)), (Pt b29 2), (Iv c2), (Iv ((c0 * c1) * c2)), (Iv (k : Int)), (Bo (icmp .lss (k : Int) ((c0 * c1) * c2))), (Iv (k : Int)), v96, (.slice p84 ((takG A_g (fun x y z => idxG A_g (p0_f x y z) (p1_f x y z) (p2_f x y z)) c0 c1 k).length) q85), v98, v99, v100, v101, v102, v103, v104, v105, v106, v107, v108, v109, (.slice (some ⟨b117, 0, none⟩) 1 1), (.slice p136 (((takG A_g (fun x y z => idxG A_g (p0_f x y z) (p1_f x y z) (p2_f x y z)) c0 c1 k) ++ [(cf .f32 r120)]).length) q137), (u66 50), (u66 51), Ud, Ud, Ud, Ud, Ud]) _
      refine q_is rfl rfl (does_fieldAddr (ev rfl) fa31_5) (by dsimp only [List.set]; try rfl) ?_
      refine seqn rfl rfl (does_store (n := 1) (cs := [(Fl r11), (Fl r13), (Fl r15), (Fl st_), (Iv c0), (Iv c1), (Iv c2), (.slice p84 ((takG A_g (fun x y z => idxG A_g (p0_f x y z) (p1_f x y z) (p2_f x y z)) c0 c1 k).length) q85)]) (u := (.slice p136 (((takG A_g (fun x y z => idxG A_g (p0_f x y z) (p1_f x y z) (p2_f x y z)) c0 c1 k) ++ [(cf .f32 r120)]).length) q137)) (ev rfl) (ev rfl) Try.sizeOf25 rfl (((hB82.ext E93).kl E112 nin0).kl K131 (ninS (Nat.ne_of_lt (Nat.lt_of_lt_of_le n71 hN133)) nin0)) (Nat.le_of_ble_eq_true rfl) rfl) ?_; rintro _ w141 ⟨rfl, W139, hB140⟩
      change Blk _ _ [(Fl r11), (Fl r13), (Fl r15), (Fl st_), (Iv c0), (Iv c1), (Iv c2), (.slice p136 (((takG A_g (fun x y z => idxG A_g (p0_f x y z) (p1_f x y z) (p2_f x y z)) c0 c1 k) ++ [(cf .f32 r120)]).length) q137)] at hB140
      have X142 := Below.wr X135 W139 g58
      refine wpList_nil (hK90 _ _ ?_)
      refine wp_region_lit ?_
      refine q_is rfl rfl (does_iarith (p := (k : Int)) (q := 1) (r := (k : Int) + 1) (ev rfl) (ev rfl) (.inl ⟨rfl, (in_i64 (by omega) (by omega)).symm⟩)) (by dsimp only [List.set]; try rfl) ?_
      refine q_is rfl rfl (does_move (u := (Iv ((k : Int) + 1))) (ev rfl)) (by dsimp only [List.set]; try rfl) ?_
      refine wpList_nil ?_
      have hO143 := Own.cast (ys := ((fun (k : Nat) => takG A_g (fun x y z => idxG A_g (p0_f x y z) (p1_f x y z) (p2_f x y z)) c0 c1 k) (k + 1))) (Own.same hO132 RF.flat ((Same.refl _ _).wr W139 (.inl n71)) hN76 (Nat.le_refl _)) (by (try dsimp only); first | exact (takG_succ (by assumption)).symm | (simp only [h2, h4, h6, h8, h12, h14, h16, hel1, h121]; exact (takG_succ (by assumption)).symm))
      refine ⟨k + 1, ⟨fun t => (([(Pt g_b g_o), (.agg #[(Fl r11), (Fl r13), (Fl r15)]), (Fl st_), (.agg #[(Iv c0), (Iv c1), (Iv c2)]), (.func (.func f_f) s_f c_f), Ud, (Pt b21 0), Ud, (Pt b29 0), Ud, (Pt b38 0), (Bo false), (Pt b49 0), (Iv (k : Int)), (.agg #[(Fl r11), (Fl r13), (Fl r15)]), (Fl st_), (Pt b29 0), (Iv c0), (Pt b29 1), (Iv c1), (Pt b29 2), (Iv c2), (.agg #[(Fl r11), (Fl r13), (Fl r15), (Fl st_), (Iv c0), (Iv c1), (Iv c2), (.slice none 0 0)]), (Pt b29 0), (Iv c0), (Pt b29 1), (Iv c1), (Iv (c0 * c1)), (Pt b29 2), (Iv c2), (Iv ((c0 * c1) * c2)), (Iv ((k : Int) + 1)), (Bo (icmp .lss (k : Int) ((c0 * c1) * c2))), (Iv (k : Int)), v96, (.slice p84 ((takG A_g (fun x y z => idxG A_g (p0_f x y z) (p1_f x y z) (p2_f x y z)) c0 c1 k).length) q85), v98, v99, v100, v101, v102, v103, v104, v105, v106, v107, v108, v109, (.slice (some ⟨b117, 0, none⟩) 1 1), (.slice p136 (((takG A_g (fun x y z => idxG A_g (p0_f x y z) (p1_f x y z) (p2_f x y z)) c0 c1 k) ++ [(cf .f32 r120)]).length) q137), (Pt b49 7), (Iv ((k : Int) + 1)), Ud, Ud, Ud, Ud, Ud] : List Value)[t]?).getD undef, (.slice p136 (((takG A_g (fun x y z => idxG A_g (p0_f x y z) (p1_f x y z) (p2_f x y z)) c0 c1 k) ++ [(cf .f32 r120)]).length) q137), ?_, (KpL.more (KpL.more (KpL.more (KpL.ext E79 E93) E112 all0) K131 (allS (hg130.imp (fun h => by simp [h]) id) all0)) (KpL.of_wr W139) (allS (.inl (by simp)) all0)), hO143, hB140, ?_⟩, ?_⟩
      · first | rfl | (simp only [Nat.cast_add, Nat.cast_one, Int.natCast_add, Int.natCast_one]; rfl)
      · omega
      · omega
    have c89' := c89
    (try simp only [icmp, Bool.and_eq_true, Bool.or_eq_true, Bool.and_eq_false_iff, Bool.or_eq_false_iff, Bool.not_eq_true', Bool.not_eq_false', decide_eq_true_eq, decide_eq_false_iff_not, beq_iff_eq, bne_iff_ne, beq_eq_false_iff_ne, bne_eq_false_iff_eq] at c89')
    refine wp_exit ?_
    refine hK64 _ _ ?_
    refine wp_seq_k fun K144 hK144 => ?_
    refine wp_seq_k fun K145 hK145 => ?_
    refine wp_region_lit ?_
    refine q_is rfl rfl (does_loadAgg (cs := [(Fl r11), (Fl r13), (Fl r15), (Fl st_), (Iv c0), (Iv c1), (Iv c2), (.slice p84 ((takG A_g (fun x y z => idxG A_g (p0_f x y z) (p1_f x y z) (p2_f x y z)) c0 c1 k).length) q85)]) (ev rfl) Try.isAgg31 Try.sizeOf31 (Blk.cells hB82) rfl) (by dsimp only [List.set]; try rfl) ?_
    refine seqd rfl rfl (does_call (args := #[(.agg #[(Fl r11), (Fl r13), (Fl r15), (Fl st_), (Iv c0), (Iv c1), (Iv c2), (.slice p84 ((takG A_g (fun x y z => idxG A_g (p0_f x y z) (p1_f x y z) (p2_f x y z)) c0 c1 k).length) q85)])]) cal28 (evs rfl) (c_impl_ValidGrid [(Fl r11), (Fl r13), (Fl r15), (Fl st_), (Iv c0), (Iv c1), (Iv c2), (.slice p84 ((takG A_g (fun x y z => idxG A_g (p0_f x y z) (p1_f x y z) (p2_f x y z)) c0 c1 k).length) q85)] (GridT.mk A_low (cf .f32 st_) c0 c1 c2 (takG A_g (fun x y z => idxG A_g (p0_f x y z) (p1_f x y z) (p2_f x y z)) c0 c1 k)) _ ⟨r11, r13, r15, st_, (.slice p84 ((takG A_g (fun x y z => idxG A_g (p0_f x y z) (p1_f x y z) (p2_f x y z)) c0 c1 k).length) q85), rfl, h12, h14, h16, rfl, hH86.get⟩)) ?_; rintro _ w147 ⟨E146, rfl⟩
    have X148 := Ext.gr X83 E146
    show wpList _ _ _ _ (fr [(Pt g_b g_o), (.agg #[(Fl r11), (Fl r13), (Fl r15)]), (Fl st_), (.agg #[(Iv c0), (Iv c1), (Iv c2)]), (.func (.func f_f) s_f c_f), Ud, (Pt b21 0), Ud, (Pt b29 0), Ud, (Pt b38 0), (Bo false), (Pt b49 0), (u66 13), (.agg #[(Fl r11), (Fl r13), (Fl r15)]), (Fl st_), (Pt b29 0), (Iv c0), (Pt b29 1), (Iv c1), (Pt b29 2), (Iv c2), (.agg #[(Fl r11), (Fl r13), (Fl r15), (Fl st_), (Iv c0), (Iv c1), (Iv c2), (.slice none 0 0)]), (Pt b29 0), (Iv c0), (Pt b29 1), (Iv c1), (Iv (c0 * c1)), (Pt b29 2), (Iv c2), (Iv ((c0 * c1) * c2)), (Iv (k : Int)), (Bo (icmp .lss (k : Int) ((c0 * c1) * c2))), (u66 33), (u66 34), (u66 35), (u66 36), (u66 37), (u66 38), (u66 39), (u66 40), (u66 41), (u66 42), (u66 43), (u66 44), (u66 45), (u66 46), (u66 47), (u66 48), (u66 49), (u66 50), (u66 51), (.agg #[(Fl r11), (Fl r13), (Fl r15), (Fl st_), (Iv c0), (Iv c1), (Iv c2), (.slice p84 ((takG A_g (fun x y z => idxG A_g (p0_f x y z) (p1_f x y z) (p2_f x y z)) c0 c1 k).length) q85)]), (Bo (isGrid (GridT.mk A_low (cf .f32 st_) c0 c1 c2 (takG A_g (fun x y z => idxG A_g (p0_f x y z) (p1_f x y z) (p2_f x y z)) c0 c1 k)))), Ud, Ud, Ud]) _
    refine q_is rfl rfl (does_not (ev rfl)) (by dsimp only [List.set]; try rfl) ?_
    refine wpList_nil (hK145 _ _ ?_)
    refine wp_cond_split (t := !(isGrid (GridT.mk A_low (cf .f32 st_) c0 c1 c2 (takG A_g (fun x y z => idxG A_g (p0_f x y z) (p1_f x y z) (p2_f x y z)) c0 c1 k)))) (ev rfl) (fun c149 => ?_) (fun c149 => ?_)
    · rw [Bool.not_eq_true'] at c149
      have c149' := c149
      refine wp_seq_k fun K150 hK150 => ?_
      refine wp_region_lit ?_
      refine q_is rfl rfl (does_build (parts' := []) (cells := #[(Fl 0), (Fl 0), (Fl 0), (Fl 0), (Iv 0), (Iv 0), (Iv 0), (.slice none 0 0)]) (evp rfl) (by kernel_rfl)) (by dsimp only [List.set]; try rfl) ?_
      refine seqn rfl rfl (does_store (n := 8) (cs := [(Fl 0), (Fl 0), (Fl 0), (Fl 0), (Iv 0), (Iv 0), (Iv 0), (.slice none 0 0)]) (u := (.agg #[(Fl 0), (Fl 0), (Fl 0), (Fl 0), (Iv 0), (Iv 0), (Iv 0), (.slice none 0 0)])) (ev rfl) (ev rfl) Try.sizeOf31 rfl ((((hB40.ext E52).wr W60 (Nat.ne_of_lt n57)).kl E79 (ninS (Nat.ne_of_lt (Nat.lt_of_lt_of_le n70 hN76)) (ninS (Nat.ne_of_lt n57) nin0))).ext E146) (Nat.le_of_ble_eq_true rfl) rfl) ?_; rintro _ w153 ⟨rfl, W151, hB152⟩
      change Blk _ _ [(Fl 0), (Fl 0), (Fl 0), (Fl 0), (Iv 0), (Iv 0), (Iv 0), (.slice none 0 0)] at hB152
      have X154 := Below.wr X148 W151 g46
      refine q_is rfl rfl (does_assign (u := (Bo false)) (ev rfl)) (by dsimp only [List.set]; try rfl) ?_
      refine wpList_nil (hK150 _ _ ?_)
      refine wp_ret ?_
      dsimp only [Exit.then, Exit.inBlock]
      refine ret_val (v := (.tuple #[(.agg #[(Fl 0), (Fl 0), (Fl 0), (Fl 0), (Iv 0), (Iv 0), (Iv 0), (.slice none 0 0)]), (Bo false)])) (res_CT rfl (slot rfl) (run_loadAgg (cs := [(Fl 0), (Fl 0), (Fl 0), (Fl 0), (Iv 0), (Iv 0), (Iv 0), (.slice none 0 0)]) Try.isAgg31 Try.sizeOf31 (Blk.cells hB152) rfl) (slot rfl)) X154 ?_
      try simp only [h2, h4, h6, h8, h12, h14, h16] at c89 c149
      have x155 : (isGrid (GridT.mk A_low (cf .f32 st_) c0 c1 c2 (takG A_g (fun x y z => idxG A_g (p0_f x y z) (p1_f x y z) (p2_f x y z)) c0 c1 (c0 * c1 * c2).toNat))) = false := by first | exact taken_b (by omega) (by omega) (by assumption) | (rw [taken_f (by omega) (by omega) (by assumption)] <;> rfl) | (rw [taken_t (k := k) (by omega) (by omega) (by assumption)] <;> first | rfl | assumption | (simp only [h2, h4, h6, h8, h12, h14, h16, c89, c149]; done))
      have x156 : cf .f32 0 = (gvA zG (isGrid (GridT.mk A_low (cf .f32 st_) c0 c1 c2 (takG A_g (fun x y z => idxG A_g (p0_f x y z) (p1_f x y z) (p2_f x y z)) c0 c1 (c0 * c1 * c2).toNat))) (GridT.mk A_low (cf .f32 st_) c0 c1 c2 (takG A_g (fun x y z => idxG A_g (p0_f x y z) (p1_f x y z) (p2_f x y z)) c0 c1 (c0 * c1 * c2).toNat))).low.x := by first | exact taken_b (by omega) (by omega) (by assumption) | (rw [taken_f (by omega) (by omega) (by assumption)] <;> rfl) | (rw [taken_t (k := k) (by omega) (by omega) (by assumption)] <;> first | rfl | assumption | (simp only [h2, h4, h6, h8, h12, h14, h16, c89, c149]; done))
      have x157 : cf .f32 0 = (gvA zG (isGrid (GridT.mk A_low (cf .f32 st_) c0 c1 c2 (takG A_g (fun x y z => idxG A_g (p0_f x y z) (p1_f x y z) (p2_f x y z)) c0 c1 (c0 * c1 * c2).toNat))) (GridT.mk A_low (cf .f32 st_) c0 c1 c2 (takG A_g (fun x y z => idxG A_g (p0_f x y z) (p1_f x y z) (p2_f x y z)) c0 c1 (c0 * c1 * c2).toNat))).low.y := by first | exact taken_b (by omega) (by omega) (by assumption) | (rw [taken_f (by omega) (by omega) (by assumption)] <;> rfl) | (rw [taken_t (k := k) (by omega) (by omega) (by assumption)] <;> first | rfl | assumption | (simp only [h2, h4, h6, h8, h12, h14, h16, c89, c149]; done))
      have x158 : cf .f32 0 = (gvA zG (isGrid (GridT.mk A_low (cf .f32 st_) c0 c1 c2 (takG A_g (fun x y z => idxG A_g (p0_f x y z) (p1_f x y z) (p2_f x y z)) c0 c1 (c0 * c1 * c2).toNat))) (GridT.mk A_low (cf .f32 st_) c0 c1 c2 (takG A_g (fun x y z => idxG A_g (p0_f x y z) (p1_f x y z) (p2_f x y z)) c0 c1 (c0 * c1 * c2).toNat))).low.z := by first | exact taken_b (by omega) (by omega) (by assumption) | (rw [taken_f (by omega) (by omega) (by assumption)] <;> rfl) | (rw [taken_t (k := k) (by omega) (by omega) (by assumption)] <;> first | rfl | assumption | (simp only [h2, h4, h6, h8, h12, h14, h16, c89, c149]; done))
      have x159 : cf .f32 0 = (gvA zG (isGrid (GridT.mk A_low (cf .f32 st_) c0 c1 c2 (takG A_g (fun x y z => idxG A_g (p0_f x y z) (p1_f x y z) (p2_f x y z)) c0 c1 (c0 * c1 * c2).toNat))) (GridT.mk A_low (cf .f32 st_) c0 c1 c2 (takG A_g (fun x y z => idxG A_g (p0_f x y z) (p1_f x y z) (p2_f x y z)) c0 c1 (c0 * c1 * c2).toNat))).step := by first | exact taken_b (by omega) (by omega) (by assumption) | (rw [taken_f (by omega) (by omega) (by assumption)] <;> rfl) | (rw [taken_t (k := k) (by omega) (by omega) (by assumption)] <;> first | rfl | assumption | (simp only [h2, h4, h6, h8, h12, h14, h16, c89, c149]; done))
      have x160 : (gvA zG (isGrid (GridT.mk A_low (cf .f32 st_) c0 c1 c2 (takG A_g (fun x y z => idxG A_g (p0_f x y z) (p1_f x y z) (p2_f x y z)) c0 c1 (c0 * c1 * c2).toNat))) (GridT.mk A_low (cf .f32 st_) c0 c1 c2 (takG A_g (fun x y z => idxG A_g (p0_f x y z) (p1_f x y z) (p2_f x y z)) c0 c1 (c0 * c1 * c2).toNat))).x = 0 := by first | exact taken_b (by omega) (by omega) (by assumption) | (rw [taken_f (by omega) (by omega) (by assumption)] <;> rfl) | (rw [taken_t (k := k) (by omega) (by omega) (by assumption)] <;> first | rfl | assumption | (simp only [h2, h4, h6, h8, h12, h14, h16, c89, c149]; done))
      have x161 : (gvA zG (isGrid (GridT.mk A_low (cf .f32 st_) c0 c1 c2 (takG A_g (fun x y z => idxG A_g (p0_f x y z) (p1_f x y z) (p2_f x y z)) c0 c1 (c0 * c1 * c2).toNat))) (GridT.mk A_low (cf .f32 st_) c0 c1 c2 (takG A_g (fun x y z => idxG A_g (p0_f x y z) (p1_f x y z) (p2_f x y z)) c0 c1 (c0 * c1 * c2).toNat))).y = 0 := by first | exact taken_b (by omega) (by omega) (by assumption) | (rw [taken_f (by omega) (by omega) (by assumption)] <;> rfl) | (rw [taken_t (k := k) (by omega) (by omega) (by assumption)] <;> first | rfl | assumption | (simp only [h2, h4, h6, h8, h12, h14, h16, c89, c149]; done))
      have x162 : (gvA zG (isGrid (GridT.mk A_low (cf .f32 st_) c0 c1 c2 (takG A_g (fun x y z => idxG A_g (p0_f x y z) (p1_f x y z) (p2_f x y z)) c0 c1 (c0 * c1 * c2).toNat))) (GridT.mk A_low (cf .f32 st_) c0 c1 c2 (takG A_g (fun x y z => idxG A_g (p0_f x y z) (p1_f x y z) (p2_f x y z)) c0 c1 (c0 * c1 * c2).toNat))).z = 0 := by first | exact taken_b (by omega) (by omega) (by assumption) | (rw [taken_f (by omega) (by omega) (by assumption)] <;> rfl) | (rw [taken_t (k := k) (by omega) (by omega) (by assumption)] <;> first | rfl | assumption | (simp only [h2, h4, h6, h8, h12, h14, h16, c89, c149]; done))
      have x163 : ([]) = ((gvA zG (isGrid (GridT.mk A_low (cf .f32 st_) c0 c1 c2 (takG A_g (fun x y z => idxG A_g (p0_f x y z) (p1_f x y z) (p2_f x y z)) c0 c1 (c0 * c1 * c2).toNat))) (GridT.mk A_low (cf .f32 st_) c0 c1 c2 (takG A_g (fun x y z => idxG A_g (p0_f x y z) (p1_f x y z) (p2_f x y z)) c0 c1 (c0 * c1 * c2).toNat))).vals) := by first | exact taken_b (by omega) (by omega) (by assumption) | (rw [taken_f (by omega) (by omega) (by assumption)] <;> rfl) | (rw [taken_t (k := k) (by omega) (by omega) (by assumption)] <;> first | rfl | assumption | (simp only [h2, h4, h6, h8, h12, h14, h16, c89, c149]; done))
      have x164 : ([]) = ((gvA zG (isGrid (GridT.mk A_low (cf .f32 st_) c0 c1 c2 (takG A_g (fun x y z => idxG A_g (p0_f x y z) (p1_f x y z) (p2_f x y z)) c0 c1 (c0 * c1 * c2).toNat))) (GridT.mk A_low (cf .f32 st_) c0 c1 c2 (takG A_g (fun x y z => idxG A_g (p0_f x y z) (p1_f x y z) (p2_f x y z)) c0 c1 (c0 * c1 * c2).toNat))).vals) := by first | exact taken_b (by omega) (by omega) (by assumption) | (rw [taken_f (by omega) (by omega) (by assumption)] <;> rfl) | (rw [taken_t (k := k) (by omega) (by omega) (by assumption)] <;> first | rfl | assumption | (simp only [h2, h4, h6, h8, h12, h14, h16, c89, c149]; done))
      exact ⟨[(Fl 0), (Fl 0), (Fl 0), (Fl 0), (Iv 0), (Iv 0), (Iv 0), (.slice none 0 0)], [], (by first | rfl | rw [x155]), fun u hu => ⟨0, 0, 0, 0, (.slice none 0 0), (by first | with_reducible rfl | (show _ = _; simp only [x160, x161, x162]) | rfl), x156, x157, x158, x159, (Hang.castL (Sl.hang_nil _ _ _ _) x163) u hu⟩, (WL.cast (WL.nil _ _ _) (congrArg List.length x164))⟩
    rw [Bool.not_eq_false'] at c149
    have c149' := c149
    refine wp_skip (hK144 _ _ ?_)
    refine wp_seq_k fun K165 hK165 => ?_
    refine wp_region_lit ?_
    refine q_is rfl rfl (does_loadAgg (cs := [(Fl r11), (Fl r13), (Fl r15), (Fl st_), (Iv c0), (Iv c1), (Iv c2), (.slice p84 ((takG A_g (fun x y z => idxG A_g (p0_f x y z) (p1_f x y z) (p2_f x y z)) c0 c1 k).length) q85)]) (ev rfl) Try.isAgg31 Try.sizeOf31 (Blk.cells (hB82.ext E146)) rfl) (by dsimp only [List.set]; try rfl) ?_
    refine seqn rfl rfl (does_store (n := 8) (cs := [(Fl 0), (Fl 0), (Fl 0), (Fl 0), (Iv 0), (Iv 0), (Iv 0), (.slice none 0 0)]) (u := (.agg #[(Fl r11), (Fl r13), (Fl r15), (Fl st_), (Iv c0), (Iv c1), (Iv c2), (.slice p84 ((takG A_g (fun x y z => idxG A_g (p0_f x y z) (p1_f x y z) (p2_f x y z)) c0 c1 k).length) q85)])) (ev rfl) (ev rfl) Try.sizeOf31 rfl ((((hB40.ext E52).wr W60 (Nat.ne_of_lt n57)).kl E79 (ninS (Nat.ne_of_lt (Nat.lt_of_lt_of_le n70 hN76)) (ninS (Nat.ne_of_lt n57) nin0))).ext E146) (Nat.le_of_ble_eq_true rfl) rfl) ?_; rintro _ w168 ⟨rfl, W166, hB167⟩
    change Blk _ _ [(Fl r11), (Fl r13), (Fl r15), (Fl st_), (Iv c0), (Iv c1), (Iv c2), (.slice p84 ((takG A_g (fun x y z => idxG A_g (p0_f x y z) (p1_f x y z) (p2_f x y z)) c0 c1 k).length) q85)] at hB167
    have X169 := Below.wr X148 W166 g46
    refine q_is rfl rfl (does_assign (u := (Bo true)) (ev rfl)) (by dsimp only [List.set]; try rfl) ?_
    refine wpList_nil (hK165 _ _ ?_)
    refine wp_ret ?_
    refine ret_val (v := (.tuple #[(.agg #[(Fl r11), (Fl r13), (Fl r15), (Fl st_), (Iv c0), (Iv c1), (Iv c2), (.slice p84 ((takG A_g (fun x y z => idxG A_g (p0_f x y z) (p1_f x y z) (p2_f x y z)) c0 c1 k).length) q85)]), (Bo true)])) (res_CT rfl (slot rfl) (run_loadAgg (cs := [(Fl r11), (Fl r13), (Fl r15), (Fl st_), (Iv c0), (Iv c1), (Iv c2), (.slice p84 ((takG A_g (fun x y z => idxG A_g (p0_f x y z) (p1_f x y z) (p2_f x y z)) c0 c1 k).length) q85)]) Try.isAgg31 Try.sizeOf31 (Blk.cells hB167) rfl) (slot rfl)) X169 ?_
    obtain ⟨Lw170, hw171⟩ : ∃ L, WL 1 w.heap.size w168 L (.slice p84 ((takG A_g (fun x y z => idxG A_g (p0_f x y z) (p1_f x y z) (p2_f x y z)) c0 c1 k).length) q85) (takG A_g (fun x y z => idxG A_g (p0_f x y z) (p1_f x y z) (p2_f x y z)) c0 c1 k).length := Own.wl (Own.same hO81 RF.flat (((Same.refl _ _).ext E146).wr W166 (.inl n70)) hN76 (Nat.le_refl _)) (Nat.le_trans (Nat.le_trans (Nat.le_trans (Nat.le_trans (Nat.le_trans (Below.size E24) (Below.size E32)) (Below.size E41)) (Below.size E52)) (Nat.le_of_eq (Eq.symm (Wr.size W60)))) hN76) (Nat.le_trans (Nat.le_trans (Nat.le_trans (Nat.le_trans (Nat.le_trans (Below.size E24) (Below.size E32)) (Below.size E41)) (Below.size E52)) (Nat.le_of_eq (Eq.symm (Wr.size W60)))) (Nat.le_refl _))
    try simp only [h2, h4, h6, h8, h12, h14, h16] at c89 c149
    have x172 : (isGrid (GridT.mk A_low (cf .f32 st_) c0 c1 c2 (takG A_g (fun x y z => idxG A_g (p0_f x y z) (p1_f x y z) (p2_f x y z)) c0 c1 (c0 * c1 * c2).toNat))) = true := by first | exact taken_b (by omega) (by omega) (by assumption) | (rw [taken_f (by omega) (by omega) (by assumption)] <;> rfl) | (rw [taken_t (k := k) (by omega) (by omega) (by assumption)] <;> first | rfl | assumption | (simp only [h2, h4, h6, h8, h12, h14, h16, c89, c149]; done))
    have x173 : cf .f32 r11 = (gvA zG (isGrid (GridT.mk A_low (cf .f32 st_) c0 c1 c2 (takG A_g (fun x y z => idxG A_g (p0_f x y z) (p1_f x y z) (p2_f x y z)) c0 c1 (c0 * c1 * c2).toNat))) (GridT.mk A_low (cf .f32 st_) c0 c1 c2 (takG A_g (fun x y z => idxG A_g (p0_f x y z) (p1_f x y z) (p2_f x y z)) c0 c1 (c0 * c1 * c2).toNat))).low.x := by first | exact taken_b (by omega) (by omega) (by assumption) | (rw [taken_f (by omega) (by omega) (by assumption)] <;> rfl) | (rw [taken_t (k := k) (by omega) (by omega) (by assumption)] <;> first | rfl | assumption | (simp only [h2, h4, h6, h8, h12, h14, h16, c89, c149]; done))
    have x174 : cf .f32 r13 = (gvA zG (isGrid (GridT.mk A_low (cf .f32 st_) c0 c1 c2 (takG A_g (fun x y z => idxG A_g (p0_f x y z) (p1_f x y z) (p2_f x y z)) c0 c1 (c0 * c1 * c2).toNat))) (GridT.mk A_low (cf .f32 st_) c0 c1 c2 (takG A_g (fun x y z => idxG A_g (p0_f x y z) (p1_f x y z) (p2_f x y z)) c0 c1 (c0 * c1 * c2).toNat))).low.y := by first | exact taken_b (by omega) (by omega) (by assumption) | (rw [taken_f (by omega) (by omega) (by assumption)] <;> rfl) | (rw [taken_t (k := k) (by omega) (by omega) (by assumption)] <;> first | rfl | assumption | (simp only [h2, h4, h6, h8, h12, h14, h16, c89, c149]; done))
    have x175 : cf .f32 r15 = (gvA zG (isGrid (GridT.mk A_low (cf .f32 st_) c0 c1 c2 (takG A_g (fun x y z => idxG A_g (p0_f x y z) (p1_f x y z) (p2_f x y z)) c0 c1 (c0 * c1 * c2).toNat))) (GridT.mk A_low (cf .f32 st_) c0 c1 c2 (takG A_g (fun x y z => idxG A_g (p0_f x y z) (p1_f x y z) (p2_f x y z)) c0 c1 (c0 * c1 * c2).toNat))).low.z := by first | exact taken_b (by omega) (by omega) (by assumption) | (rw [taken_f (by omega) (by omega) (by assumption)] <;> rfl) | (rw [taken_t (k := k) (by omega) (by omega) (by assumption)] <;> first | rfl | assumption | (simp only [h2, h4, h6, h8, h12, h14, h16, c89, c149]; done))
    have x176 : cf .f32 st_ = (gvA zG (isGrid (GridT.mk A_low (cf .f32 st_) c0 c1 c2 (takG A_g (fun x y z => idxG A_g (p0_f x y z) (p1_f x y z) (p2_f x y z)) c0 c1 (c0 * c1 * c2).toNat))) (GridT.mk A_low (cf .f32 st_) c0 c1 c2 (takG A_g (fun x y z => idxG A_g (p0_f x y z) (p1_f x y z) (p2_f x y z)) c0 c1 (c0 * c1 * c2).toNat))).step := by first | exact taken_b (by omega) (by omega) (by assumption) | (rw [taken_f (by omega) (by omega) (by assumption)] <;> rfl) | (rw [taken_t (k := k) (by omega) (by omega) (by assumption)] <;> first | rfl | assumption | (simp only [h2, h4, h6, h8, h12, h14, h16, c89, c149]; done))
    have x177 : (gvA zG (isGrid (GridT.mk A_low (cf .f32 st_) c0 c1 c2 (takG A_g (fun x y z => idxG A_g (p0_f x y z) (p1_f x y z) (p2_f x y z)) c0 c1 (c0 * c1 * c2).toNat))) (GridT.mk A_low (cf .f32 st_) c0 c1 c2 (takG A_g (fun x y z => idxG A_g (p0_f x y z) (p1_f x y z) (p2_f x y z)) c0 c1 (c0 * c1 * c2).toNat))).x = c0 := by first | exact taken_b (by omega) (by omega) (by assumption) | (rw [taken_f (by omega) (by omega) (by assumption)] <;> rfl) | (rw [taken_t (k := k) (by omega) (by omega) (by assumption)] <;> first | rfl | assumption | (simp only [h2, h4, h6, h8, h12, h14, h16, c89, c149]; done))
    have x178 : (gvA zG (isGrid (GridT.mk A_low (cf .f32 st_) c0 c1 c2 (takG A_g (fun x y z => idxG A_g (p0_f x y z) (p1_f x y z) (p2_f x y z)) c0 c1 (c0 * c1 * c2).toNat))) (GridT.mk A_low (cf .f32 st_) c0 c1 c2 (takG A_g (fun x y z => idxG A_g (p0_f x y z) (p1_f x y z) (p2_f x y z)) c0 c1 (c0 * c1 * c2).toNat))).y = c1 := by first | exact taken_b (by omega) (by omega) (by assumption) | (rw [taken_f (by omega) (by omega) (by assumption)] <;> rfl) | (rw [taken_t (k := k) (by omega) (by omega) (by assumption)] <;> first | rfl | assumption | (simp only [h2, h4, h6, h8, h12, h14, h16, c89, c149]; done))
    have x179 : (gvA zG (isGrid (GridT.mk A_low (cf .f32 st_) c0 c1 c2 (takG A_g (fun x y z => idxG A_g (p0_f x y z) (p1_f x y z) (p2_f x y z)) c0 c1 (c0 * c1 * c2).toNat))) (GridT.mk A_low (cf .f32 st_) c0 c1 c2 (takG A_g (fun x y z => idxG A_g (p0_f x y z) (p1_f x y z) (p2_f x y z)) c0 c1 (c0 * c1 * c2).toNat))).z = c2 := by first | exact taken_b (by omega) (by omega) (by assumption) | (rw [taken_f (by omega) (by omega) (by assumption)] <;> rfl) | (rw [taken_t (k := k) (by omega) (by omega) (by assumption)] <;> first | rfl | assumption | (simp only [h2, h4, h6, h8, h12, h14, h16, c89, c149]; done))
    have x180 : (takG A_g (fun x y z => idxG A_g (p0_f x y z) (p1_f x y z) (p2_f x y z)) c0 c1 k) = ((gvA zG (isGrid (GridT.mk A_low (cf .f32 st_) c0 c1 c2 (takG A_g (fun x y z => idxG A_g (p0_f x y z) (p1_f x y z) (p2_f x y z)) c0 c1 (c0 * c1 * c2).toNat))) (GridT.mk A_low (cf .f32 st_) c0 c1 c2 (takG A_g (fun x y z => idxG A_g (p0_f x y z) (p1_f x y z) (p2_f x y z)) c0 c1 (c0 * c1 * c2).toNat))).vals) := by first | exact taken_b (by omega) (by omega) (by assumption) | (rw [taken_f (by omega) (by omega) (by assumption)] <;> rfl) | (rw [taken_t (k := k) (by omega) (by omega) (by assumption)] <;> first | rfl | assumption | (simp only [h2, h4, h6, h8, h12, h14, h16, c89, c149]; done))
    have x181 : (takG A_g (fun x y z => idxG A_g (p0_f x y z) (p1_f x y z) (p2_f x y z)) c0 c1 k) = ((gvA zG (isGrid (GridT.mk A_low (cf .f32 st_) c0 c1 c2 (takG A_g (fun x y z => idxG A_g (p0_f x y z) (p1_f x y z) (p2_f x y z)) c0 c1 (c0 * c1 * c2).toNat))) (GridT.mk A_low (cf .f32 st_) c0 c1 c2 (takG A_g (fun x y z => idxG A_g (p0_f x y z) (p1_f x y z) (p2_f x y z)) c0 c1 (c0 * c1 * c2).toNat))).vals) := by first | exact taken_b (by omega) (by omega) (by assumption) | (rw [taken_f (by omega) (by omega) (by assumption)] <;> rfl) | (rw [taken_t (k := k) (by omega) (by omega) (by assumption)] <;> first | rfl | assumption | (simp only [h2, h4, h6, h8, h12, h14, h16, c89, c149]; done))
    exact ⟨[(Fl r11), (Fl r13), (Fl r15), (Fl st_), (Iv c0), (Iv c1), (Iv c2), (.slice p84 ((takG A_g (fun x y z => idxG A_g (p0_f x y z) (p1_f x y z) (p2_f x y z)) c0 c1 k).length) q85)], Lw170, (by first | rfl | rw [x172]), fun u hu => ⟨r11, r13, r15, st_, (.slice p84 ((takG A_g (fun x y z => idxG A_g (p0_f x y z) (p1_f x y z) (p2_f x y z)) c0 c1 k).length) q85), (by first | with_reducible rfl | (show _ = _; simp only [x177, x178, x179]) | rfl), x173, x174, x175, x176, (Hang.castL (Own.hang (Own.same hO81 RF.flat (((Same.refl _ _).ext E146).wr W166 (.inl n70)) hN76 (Nat.le_refl _)) RF.flat (by decide) (Nat.le_trans (Nat.le_trans (Nat.le_trans (Nat.le_trans (Nat.le_trans (Below.size E24) (Below.size E32)) (Below.size E41)) (Below.size E52)) (Nat.le_of_eq (Eq.symm (Wr.size W60)))) hN76) (Nat.le_trans (Nat.le_trans (Nat.le_trans (Nat.le_trans (Nat.le_trans (Below.size E24) (Below.size E32)) (Below.size E41)) (Below.size E52)) (Nat.le_of_eq (Eq.symm (Wr.size W60)))) (Nat.le_refl _))) x180) u hu⟩, (WL.cast hw171 (congrArg List.length x181))⟩

/- impl.AddVectors -/
theorem c_impl_AddVectors (a : List Value) (A_a : V3) (b : List Value) (A_b : V3) (w : World) (hv_a : RV3 w A_a a) (hv_b : RV3 w A_b b) : Gives Try.prog 55 #[(.agg a.toArray), (.agg b.toArray)] w (fun v w' => ∃ cs_1 : List Value, v = (.agg cs_1.toArray) ∧ RV3 w (vadd A_a A_b) cs_1) := by
  obtain ⟨r1, r3, r5, rfl, h2, h4, h6⟩ := hv_a
  obtain ⟨r7, r9, r11, rfl, h8, h10, h12⟩ := hv_b
  refine enter [(.agg #[(Fl r1), (Fl r3), (Fl r5)]), (.agg #[(Fl r7), (Fl r9), (Fl r11)]), Ud, Ud, Ud, Ud, Ud, Ud, Ud, Ud, Ud, Ud, Ud, Ud, Ud, Ud, Ud, Ud, Ud, Ud, Ud] Try.func55 rfl Try.ntmps55 rfl ?_
  refine wp_seq_k fun K13 hK13 => ?_
  refine wp_region_lit ?_
  refine seqd rfl rfl (does_box (u := (.agg #[(Fl r1), (Fl r3), (Fl r5)])) (ev rfl)) ?_; rintro _ w18 ⟨b14, rfl, hb15, hB16, E17⟩
  have g19 : w.heap.size ≤ b14 := Nat.le_trans (Below.size (Ext.refl w)) hb15
  change Blk _ _ [(Fl r1), (Fl r3), (Fl r5)] at hB16
  have X20 := Ext.gr (Ext.refl w) E17
  show wpList _ _ _ _ (fr [(.agg #[(Fl r1), (Fl r3), (Fl r5)]), (.agg #[(Fl r7), (Fl r9), (Fl r11)]), (Pt b14 0), Ud, Ud, Ud, Ud, Ud, Ud, Ud, Ud, Ud, Ud, Ud, Ud, Ud, Ud, Ud, Ud, Ud, Ud]) _
  refine seqd rfl rfl (does_box (u := (.agg #[(Fl r7), (Fl r9), (Fl r11)])) (ev rfl)) ?_; rintro _ w25 ⟨b21, rfl, hb22, hB23, E24⟩
  have n26 : b14 < b21 := Nat.lt_of_lt_of_le (Blk.lt hB16) hb22
  have g27 : w.heap.size ≤ b21 := Nat.le_trans (Below.size X20) hb22
  change Blk _ _ [(Fl r7), (Fl r9), (Fl r11)] at hB23
  have X28 := Ext.gr X20 E24
  show wpList _ _ _ _ (fr [(.agg #[(Fl r1), (Fl r3), (Fl r5)]), (.agg #[(Fl r7), (Fl r9), (Fl r11)]), (Pt b14 0), (Pt b21 0), Ud, Ud, Ud, Ud, Ud, Ud, Ud, Ud, Ud, Ud, Ud, Ud, Ud, Ud, Ud, Ud, Ud]) _
  refine seqd rfl rfl (does_alloc z29) ?_; rintro _ w33 ⟨b29, rfl, hb30, hB31, E32⟩
  have n34 : b14 < b29 := Nat.lt_of_lt_of_le (Blk.lt (hB16.ext E24)) hb30
  have n35 : b21 < b29 := Nat.lt_of_lt_of_le (Blk.lt hB23) hb30
  have g36 : w.heap.size ≤ b29 := Nat.le_trans (Below.size X28) hb30
  change Blk _ _ [(Fl 0), (Fl 0), (Fl 0)] at hB31
  have X37 := Ext.gr X28 E32
  show wpList _ _ _ _ (fr [(.agg #[(Fl r1), (Fl r3), (Fl r5)]), (.agg #[(Fl r7), (Fl r9), (Fl r11)]), (Pt b14 0), (Pt b21 0), (Pt b29 0), Ud, Ud, Ud, Ud, Ud, Ud, Ud, Ud, Ud, Ud, Ud, Ud, Ud, Ud, Ud, Ud]) _
  refine wpList_nil (hK13 _ _ ?_)
  refine wp_seq_k fun K38 hK38 => ?_
  refine wp_region_lit ?_
  refine q_is (l' := [(.agg #[(Fl r1), (Fl r3), (Fl r5)]), (.agg #[(Fl r7), (Fl r9), (Fl r11)]), (Pt b14 0), (Pt b21 0), (Pt b29 0), (Pt b14 0), Ud, Ud, Ud, Ud, Ud, Ud, Ud, Ud, Ud, Ud, Ud, Ud, Ud, Ud, Ud]) rfl rfl (does_fieldAddr (ev rfl) fa29_0) rfl ?_
  refine q_is (l' := [(.agg #[(Fl r1), (Fl r3), (Fl r5)]), (.agg #[(Fl r7), (Fl r9), (Fl r11)]), (Pt b14 0), (Pt b21 0), (Pt b29 0), (Pt b14 0), (Fl r1), Ud, Ud, Ud, Ud, Ud, Ud, Ud, Ud, Ud, Ud, Ud, Ud, Ud, Ud]) rfl rfl (does_load (u := (Fl r1)) (ev rfl) Try.isAgg22 (Cells.at (Blk.cells ((hB16.ext E24).ext E32)) 0 rfl)) rfl ?_
  refine q_is (l' := [(.agg #[(Fl r1), (Fl r3), (Fl r5)]), (.agg #[(Fl r7), (Fl r9), (Fl r11)]), (Pt b14 0), (Pt b21 0), (Pt b29 0), (Pt b14 0), (Fl r1), (Pt b21 0), Ud, Ud, Ud, Ud, Ud, Ud, Ud, Ud, Ud, Ud, Ud, Ud, Ud]) rfl rfl (does_fieldAddr (ev rfl) fa29_0) rfl ?_
  refine q_is (l' := [(.agg #[(Fl r1), (Fl r3), (Fl r5)]), (.agg #[(Fl r7), (Fl r9), (Fl r11)]), (Pt b14 0), (Pt b21 0), (Pt b29 0), (Pt b14 0), (Fl r1), (Pt b21 0), (Fl r7), Ud, Ud, Ud, Ud, Ud, Ud, Ud, Ud, Ud, Ud, Ud, Ud]) rfl rfl (does_load (u := (Fl r7)) (ev rfl) Try.isAgg22 (Cells.at (Blk.cells (hB23.ext E32)) 0 rfl)) rfl ?_
  refine seqd rfl rfl (does_float (.inl rfl) (ev rfl) (ev rfl)) ?_; rintro _ w42 ⟨r39, rfl, h40, E41⟩
  have X43 := Ext.gr X37 E41
  show wpList _ _ _ _ (fr [(.agg #[(Fl r1), (Fl r3), (Fl r5)]), (.agg #[(Fl r7), (Fl r9), (Fl r11)]), (Pt b14 0), (Pt b21 0), (Pt b29 0), (Pt b14 0), (Fl r1), (Pt b21 0), (Fl r7), (Fl r39), Ud, Ud, Ud, Ud, Ud, Ud, Ud, Ud, Ud, Ud, Ud]) _
  refine q_is (l' := [(.agg #[(Fl r1), (Fl r3), (Fl r5)]), (.agg #[(Fl r7), (Fl r9), (Fl r11)]), (Pt b14 0), (Pt b21 0), (Pt b29 0), (Pt b14 0), (Fl r1), (Pt b21 0), (Fl r7), (Fl r39), (Pt b14 1), Ud, Ud, Ud, Ud, Ud, Ud, Ud, Ud, Ud, Ud]) rfl rfl (does_fieldAddr (ev rfl) fa29_1) rfl ?_
  refine q_is (l' := [(.agg #[(Fl r1), (Fl r3), (Fl r5)]), (.agg #[(Fl r7), (Fl r9), (Fl r11)]), (Pt b14 0), (Pt b21 0), (Pt b29 0), (Pt b14 0), (Fl r1), (Pt b21 0), (Fl r7), (Fl r39), (Pt b14 1), (Fl r3), Ud, Ud, Ud, Ud, Ud, Ud, Ud, Ud, Ud]) rfl rfl (does_load (u := (Fl r3)) (ev rfl) Try.isAgg22 (Cells.at (Blk.cells (((hB16.ext E24).ext E32).ext E41)) 1 rfl)) rfl ?_
  refine q_is (l' := [(.agg #[(Fl r1), (Fl r3), (Fl r5)]), (.agg #[(Fl r7), (Fl r9), (Fl r11)]), (Pt b14 0), (Pt b21 0), (Pt b29 0), (Pt b14 0), (Fl r1), (Pt b21 0), (Fl r7), (Fl r39), (Pt b14 1), (Fl r3), (Pt b21 1), Ud, Ud, Ud, Ud, Ud, Ud, Ud, Ud]) rfl rfl (does_fieldAddr (ev rfl) fa29_1) rfl ?_
  refine q_is (l' := [(.agg #[(Fl r1), (Fl r3), (Fl r5)]), (.agg #[(Fl r7), (Fl r9), (Fl r11)]), (Pt b14 0), (Pt b21 0), (Pt b29 0), (Pt b14 0), (Fl r1), (Pt b21 0), (Fl r7), (Fl r39), (Pt b14 1), (Fl r3), (Pt b21 1), (Fl r9), Ud, Ud, Ud, Ud, Ud, Ud, Ud]) rfl rfl (does_load (u := (Fl r9)) (ev rfl) Try.isAgg22 (Cells.at (Blk.cells ((hB23.ext E32).ext E41)) 1 rfl)) rfl ?_
  refine seqd rfl rfl (does_float (.inl rfl) (ev rfl) (ev rfl)) ?_; rintro _ w47 ⟨r44, rfl, h45, E46⟩
  have X48 := Ext.gr X43 E46
  show wpList _ _ _ _ (fr [(.agg #[(Fl r1), (Fl r3), (Fl r5)]), (.agg #[(Fl r7), (Fl r9), (Fl r11)]), (Pt b14 0), (Pt b21 0), (Pt b29 0), (Pt b14 0), (Fl r1), (Pt b21 0), (Fl r7), (Fl r39), (Pt b14 1), (Fl r3), (Pt b21 1), (Fl r9), (Fl r44), Ud, Ud, Ud, Ud, Ud, Ud]) _
  refine q_is (l' := [(.agg #[(Fl r1), (Fl r3), (Fl r5)]), (.agg #[(Fl r7), (Fl r9), (Fl r11)]), (Pt b14 0), (Pt b21 0), (Pt b29 0), (Pt b14 0), (Fl r1), (Pt b21 0), (Fl r7), (Fl r39), (Pt b14 1), (Fl r3), (Pt b21 1), (Fl r9), (Fl r44), (Pt b14 2), Ud, Ud, Ud, Ud, Ud]) rfl rfl (does_fieldAddr (ev rfl) fa29_2) rfl ?_
  refine q_is (l' := [(.agg #[(Fl r1), (Fl r3), (Fl r5)]), (.agg #[(Fl r7), (Fl r9), (Fl r11)]), (Pt b14 0), (Pt b21 0), (Pt b29 0), (Pt b14 0), (Fl r1), (Pt b21 0), (Fl r7), (Fl r39), (Pt b14 1), (Fl r3), (Pt b21 1), (Fl r9), (Fl r44), (Pt b14 2), (Fl r5), Ud, Ud, Ud, Ud]) rfl rfl (does_load (u := (Fl r5)) (ev rfl) Try.isAgg22 (Cells.at (Blk.cells ((((hB16.ext E24).ext E32).ext E41).ext E46)) 2 rfl)) rfl ?_
  refine q_is (l' := [(.agg #[(Fl r1), (Fl r3), (Fl r5)]), (.agg #[(Fl r7), (Fl r9), (Fl r11)]), (Pt b14 0), (Pt b21 0), (Pt b29 0), (Pt b14 0), (Fl r1), (Pt b21 0), (Fl r7), (Fl r39), (Pt b14 1), (Fl r3), (Pt b21 1), (Fl r9), (Fl r44), (Pt b14 2), (Fl r5), (Pt b21 2), Ud, Ud, Ud]) rfl rfl (does_fieldAddr (ev rfl) fa29_2) rfl ?_
  refine q_is (l' := [(.agg #[(Fl r1), (Fl r3), (Fl r5)]), (.agg #[(Fl r7), (Fl r9), (Fl r11)]), (Pt b14 0), (Pt b21 0), (Pt b29 0), (Pt b14 0), (Fl r1), (Pt b21 0), (Fl r7), (Fl r39), (Pt b14 1), (Fl r3), (Pt b21 1), (Fl r9), (Fl r44), (Pt b14 2), (Fl r5), (Pt b21 2), (Fl r11), Ud, Ud]) rfl rfl (does_load (u := (Fl r11)) (ev rfl) Try.isAgg22 (Cells.at (Blk.cells (((hB23.ext E32).ext E41).ext E46)) 2 rfl)) rfl ?_
  refine seqd rfl rfl (does_float (.inl rfl) (ev rfl) (ev rfl)) ?_; rintro _ w52 ⟨r49, rfl, h50, E51⟩
  have X53 := Ext.gr X48 E51
  show wpList _ _ _ _ (fr [(.agg #[(Fl r1), (Fl r3), (Fl r5)]), (.agg #[(Fl r7), (Fl r9), (Fl r11)]), (Pt b14 0), (Pt b21 0), (Pt b29 0), (Pt b14 0), (Fl r1), (Pt b21 0), (Fl r7), (Fl r39), (Pt b14 1), (Fl r3), (Pt b21 1), (Fl r9), (Fl r44), (Pt b14 2), (Fl r5), (Pt b21 2), (Fl r11), (Fl r49), Ud]) _
  refine q_is (l' := [(.agg #[(Fl r1), (Fl r3), (Fl r5)]), (.agg #[(Fl r7), (Fl r9), (Fl r11)]), (Pt b14 0), (Pt b21 0), (Pt b29 0), (Pt b14 0), (Fl r1), (Pt b21 0), (Fl r7), (Fl r39), (Pt b14 1), (Fl r3), (Pt b21 1), (Fl r9), (Fl r44), (Pt b14 2), (Fl r5), (Pt b21 2), (Fl r11), (Fl r49), (.agg #[(Fl r39), (Fl r44), (Fl r49)])]) rfl rfl (does_build (parts' := [(0, (Fl r39)), (1, (Fl r44)), (2, (Fl r49))]) (cells := #[(Fl r39), (Fl r44), (Fl r49)]) (evp rfl) (by kernel_rfl)) rfl ?_
  refine seqn rfl rfl (does_store (n := 3) (cs := [(Fl 0), (Fl 0), (Fl 0)]) (u := (.agg #[(Fl r39), (Fl r44), (Fl r49)])) (ev rfl) (ev rfl) Try.sizeOf29 rfl (((hB31.ext E41).ext E46).ext E51) (Nat.le_of_ble_eq_true rfl) rfl) ?_; rintro _ w56 ⟨rfl, W54, hB55⟩
  change Blk _ _ [(Fl r39), (Fl r44), (Fl r49)] at hB55
  have X57 := Below.wr X53 W54 g36
  refine wpList_nil (hK38 _ _ ?_)
  refine wp_ret ?_
  refine ret_val (v := (.agg #[(Fl r39), (Fl r44), (Fl r49)])) (res_C rfl (slot rfl) (run_loadAgg (cs := [(Fl r39), (Fl r44), (Fl r49)]) Try.isAgg29 Try.sizeOf29 (Blk.cells hB55) rfl)) X57 ?_
  have x58 : cf .f32 r39 = (vadd A_a A_b).x := by first | with_reducible rfl | (simp only [vadd, h2, h4, h6, h8, h10, h12, h40, h45, h50]; done) | (simp [vadd, h2, h4, h6, h8, h10, h12, h40, h45, h50]; done) | rfl
  have x59 : cf .f32 r44 = (vadd A_a A_b).y := by first | with_reducible rfl | (simp only [vadd, h2, h4, h6, h8, h10, h12, h40, h45, h50]; done) | (simp [vadd, h2, h4, h6, h8, h10, h12, h40, h45, h50]; done) | rfl
  have x60 : cf .f32 r49 = (vadd A_a A_b).z := by first | with_reducible rfl | (simp only [vadd, h2, h4, h6, h8, h10, h12, h40, h45, h50]; done) | (simp [vadd, h2, h4, h6, h8, h10, h12, h40, h45, h50]; done) | rfl
  exact ⟨[(Fl r39), (Fl r44), (Fl r49)], rfl, ⟨r39, r44, r49, rfl, x58, x59, x60⟩⟩

/- (*impl.Grid).point -/
theorem c_impl_Grid_point (g_b : Nat) (g_o : Nat) (g : List Value) (A_g : GridT) (x : Int) (y : Int) (z : Int) (w : World) (hc_g : Cells w g_b g_o g) (hv_g : RGridT w A_g g) : Gives Try.prog 41 #[(Pt g_b g_o), (.agg #[(Iv x), (Iv y), (Iv z)])] w (fun v w' => ∃ cs_1 : List Value, v = (.agg cs_1.toArray) ∧ RV3 w (ptG A_g.low A_g.step x y z) cs_1) := by
  obtain ⟨r1, r3, r5, r7, y9, rfl, h2, h4, h6, h8, h10⟩ := hv_g
  have hs13 := h10; have hs13l := Sl.len h10; obtain ⟨p11, q12, rfl⟩ := Sl.shape h10
  refine enter [(Pt g_b g_o), (.agg #[(Iv x), (Iv y), (Iv z)]), Ud, Ud, Ud, Ud, Ud, Ud, Ud, Ud, Ud, Ud, Ud, Ud, Ud, Ud, Ud, Ud, Ud, Ud, Ud, Ud, Ud, Ud, Ud, Ud, Ud, Ud, Ud, Ud, Ud, Ud, Ud, Ud, Ud] Try.func41 rfl Try.ntmps41 rfl ?_
  refine wp_seq_k fun K14 hK14 => ?_
  refine wp_region_lit ?_
  refine seqd rfl rfl (does_box (u := (.agg #[(Iv x), (Iv y), (Iv z)])) (ev rfl)) ?_; rintro _ w19 ⟨b15, rfl, hb16, hB17, E18⟩
  have n20 : g_b < b15 := Nat.lt_of_lt_of_le (cell_lt (Cells.at hc_g 0 rfl)) hb16
  have g21 : w.heap.size ≤ b15 := Nat.le_trans (Below.size (Ext.refl w)) hb16
  change Blk _ _ [(Iv x), (Iv y), (Iv z)] at hB17
  have X22 := Ext.gr (Ext.refl w) E18
  show wpList _ _ _ _ (fr [(Pt g_b g_o), (.agg #[(Iv x), (Iv y), (Iv z)]), Ud, (Pt b15 0), Ud, Ud, Ud, Ud, Ud, Ud, Ud, Ud, Ud, Ud, Ud, Ud, Ud, Ud, Ud, Ud, Ud, Ud, Ud, Ud, Ud, Ud, Ud, Ud, Ud, Ud, Ud, Ud, Ud, Ud, Ud]) _
  refine seqd rfl rfl (does_alloc z29) ?_; rintro _ w27 ⟨b23, rfl, hb24, hB25, E26⟩
  have n28 : g_b < b23 := Nat.lt_of_lt_of_le (cell_lt (Cells.at (hc_g.ext X22) 0 rfl)) hb24
  have n29 : b15 < b23 := Nat.lt_of_lt_of_le (Blk.lt hB17) hb24
  have g30 : w.heap.size ≤ b23 := Nat.le_trans (Below.size X22) hb24
  change Blk _ _ [(Fl 0), (Fl 0), (Fl 0)] at hB25
  have X31 := Ext.gr X22 E26
  show wpList _ _ _ _ (fr [(Pt g_b g_o), (.agg #[(Iv x), (Iv y), (Iv z)]), Ud, (Pt b15 0), (Pt b23 0), Ud, Ud, Ud, Ud, Ud, Ud, Ud, Ud, Ud, Ud, Ud, Ud, Ud, Ud, Ud, Ud, Ud, Ud, Ud, Ud, Ud, Ud, Ud, Ud, Ud, Ud, Ud, Ud, Ud, Ud]) _
  refine wpList_nil (hK14 _ _ ?_)
  refine wp_seq_k fun K32 hK32 => ?_
  refine region_draw (
    [Fact.pure [] (fun v => v = (Pt g_b g_o)),
    Fact.pure [5] (fun v => v = (Pt g_b g_o)),
    Fact.pure [6] (fun v => v = (Pt g_b g_o)),
    Fact.pure [7] (fun v => v = (.agg #[(Fl r1), (Fl r3), (Fl r5)])),
    Fact.pure [] (fun v => v = (Pt g_b g_o)),
    Fact.pure [9] (fun v => v = (Pt g_b g_o)),
    Fact.pure [10] (fun v => v = (Pt g_b (g_o + 3))),
    Fact.pure [11] (fun v => v = (Fl r7)),
    Fact.pure [] (fun v => v = (Pt b15 0)),
    Fact.pure [13] (fun v => v = (Iv x)),
    Fact.pure [14] (fun v => v = (Fl (FloatKind.f32.nearest x))),
    Fact.pure [12, 15] (fun v => ∃ r_1 : Nat, v = (Fl r_1) ∧ cf .f32 r_1 = fop .mul .f32 (cf .f32 r7) (cf .f32 (FloatKind.f32.nearest x))),
    Fact.pure [] (fun v => v = (Pt g_b g_o)),
    Fact.pure [17] (fun v => v = (Pt g_b g_o)),
    Fact.pure [18] (fun v => v = (Pt g_b (g_o + 3))),
    Fact.pure [19] (fun v => v = (Fl r7)),
    Fact.pure [] (fun v => v = (Pt b15 1)),
    Fact.pure [21] (fun v => v = (Iv y)),
    Fact.pure [22] (fun v => v = (Fl (FloatKind.f32.nearest y))),
    Fact.pure [20, 23] (fun v => ∃ r_1 : Nat, v = (Fl r_1) ∧ cf .f32 r_1 = fop .mul .f32 (cf .f32 r7) (cf .f32 (FloatKind.f32.nearest y))),
    Fact.pure [] (fun v => v = (Pt g_b g_o)),
    Fact.pure [25] (fun v => v = (Pt g_b g_o)),
    Fact.pure [26] (fun v => v = (Pt g_b (g_o + 3))),
    Fact.pure [27] (fun v => v = (Fl r7)),
    Fact.pure [] (fun v => v = (Pt b15 2)),
    Fact.pure [29] (fun v => v = (Iv z)),
    Fact.pure [30] (fun v => v = (Fl (FloatKind.f32.nearest z))),
    Fact.pure [28, 31] (fun v => ∃ r_1 : Nat, v = (Fl r_1) ∧ cf .f32 r_1 = fop .mul .f32 (cf .f32 r7) (cf .f32 (FloatKind.f32.nearest z))),
    Fact.pure [16, 24, 32] (fun v => ∃ r_1 : Nat, ∃ r_2 : Nat, ∃ r_3 : Nat, v = (.agg #[(Fl r_1), (Fl r_2), (Fl r_3)]) ∧ cf .f32 r_1 = fop .mul .f32 (cf .f32 r7) (cf .f32 (FloatKind.f32.nearest x)) ∧ cf .f32 r_2 = fop .mul .f32 (cf .f32 r7) (cf .f32 (FloatKind.f32.nearest y)) ∧ cf .f32 r_3 = fop .mul .f32 (cf .f32 r7) (cf .f32 (FloatKind.f32.nearest z))),
    Fact.pure [8, 33] (fun v => ∃ cs_1 : List Value, v = (.agg cs_1.toArray) ∧ RV3 w (vadd A_g.low (V3.mk (fop .mul .f32 (cf .f32 r7) (cf .f32 (FloatKind.f32.nearest x))) (fop .mul .f32 (cf .f32 r7) (cf .f32 (FloatKind.f32.nearest y))) (fop .mul .f32 (cf .f32 r7) (cf .f32 (FloatKind.f32.nearest z))))) cs_1)]) mixed (by kernel_rfl) (by intro _ _ d _ _ h; cases d <;> exact h) ?_
  obtain ⟨w33, hw35⟩ : ∃ w', w' = World.drew w27 := ⟨_, rfl⟩; rw [← hw35]; have E34 : Ext w27 w33 := by rw [hw35]; exact Ext.draw _
  clear hw35
  have X36 := Ext.gr X31 E34
  refine RW_d _ rfl (fun v => by dsimp only [List.set]; try rfl) (fun u hu hF => ?_) (fun v37 => ?_)
  · clear hF
    refine doesG_un rfl ?_
    refine (does_move (u := (Pt g_b g_o)) (ev rfl)).mono ?_; rintro _ _ ⟨rfl, rfl⟩
    exact ⟨rfl, Ext.refl _⟩
  refine RW_d _ rfl (fun v => by dsimp only [List.set]; try rfl) (fun u hu hF => ?_) (fun v38 => ?_)
  · have h5_ : v37 = (Pt g_b g_o) := hF.1
    clear hF
    refine doesG_un rfl ?_
    obtain rfl := h5_
    refine (does_nilCheck (ev rfl)).mono ?_; rintro _ _ ⟨rfl, rfl⟩
    exact ⟨rfl, Ext.refl _⟩
  refine RW_d _ rfl (fun v => by dsimp only [List.set]; try rfl) (fun u hu hF => ?_) (fun v39 => ?_)
  · have h6_ : v38 = (Pt g_b g_o) := hF.1
    clear hF
    refine doesG_un rfl ?_
    obtain rfl := h6_
    refine (does_fieldAddr (ev rfl) fa31_0).mono ?_; rintro _ _ ⟨rfl, rfl⟩
    exact ⟨rfl, Ext.refl _⟩
  refine RW_d _ rfl (fun v => by dsimp only [List.set]; try rfl) (fun u hu hF => ?_) (fun v40 => ?_)
  · have h7_ : v39 = (Pt g_b g_o) := hF.1
    clear hF
    refine doesG_un rfl ?_
    obtain rfl := h7_
    refine (does_loadAgg (cs := [(Fl r1), (Fl r3), (Fl r5)]) (ev rfl) Try.isAgg29 Try.sizeOf29 (Cells.sub ((hc_g.ext (Ext.gr X31 E34)).ext hu) 0 3) rfl).mono ?_; rintro _ _ ⟨rfl, rfl⟩
    exact ⟨rfl, Ext.refl _⟩
  refine RW_d _ rfl (fun v => by dsimp only [List.set]; try rfl) (fun u hu hF => ?_) (fun v41 => ?_)
  · clear hF
    refine doesG_un rfl ?_
    refine (does_move (u := (Pt g_b g_o)) (ev rfl)).mono ?_; rintro _ _ ⟨rfl, rfl⟩
    exact ⟨rfl, Ext.refl _⟩
  refine RW_d _ rfl (fun v => by dsimp only [List.set]; try rfl) (fun u hu hF => ?_) (fun v42 => ?_)
  · have h9_ : v41 = (Pt g_b g_o) := hF.1
    clear hF
    refine doesG_un rfl ?_
    obtain rfl := h9_
    refine (does_nilCheck (ev rfl)).mono ?_; rintro _ _ ⟨rfl, rfl⟩
    exact ⟨rfl, Ext.refl _⟩
  refine RW_d _ rfl (fun v => by dsimp only [List.set]; try rfl) (fun u hu hF => ?_) (fun v43 => ?_)
  · have h10_ : v42 = (Pt g_b g_o) := hF.1
    clear hF
    refine doesG_un rfl ?_
    obtain rfl := h10_
    refine (does_fieldAddr (ev rfl) fa31_1).mono ?_; rintro _ _ ⟨rfl, rfl⟩
    exact ⟨rfl, Ext.refl _⟩
  refine RW_d _ rfl (fun v => by dsimp only [List.set]; try rfl) (fun u hu hF => ?_) (fun v44 => ?_)
  · have h11_ : v43 = (Pt g_b (g_o + 3)) := hF.1
    clear hF
    refine doesG_un rfl ?_
    obtain rfl := h11_
    refine (does_load (u := (Fl r7)) (ev rfl) Try.isAgg22 (Cells.at ((hc_g.ext (Ext.gr X31 E34)).ext hu) 3 rfl)).mono ?_; rintro _ _ ⟨rfl, rfl⟩
    exact ⟨rfl, Ext.refl _⟩
  refine RW_d _ rfl (fun v => by dsimp only [List.set]; try rfl) (fun u hu hF => ?_) (fun v45 => ?_)
  · clear hF
    refine doesG_un rfl ?_
    refine (does_indexAt_run (r := (Pt b15 0)) (ev rfl) (ev rfl) (fun w => ia55_0 _ _ w)).mono ?_; rintro _ _ ⟨rfl, rfl⟩
    exact ⟨rfl, Ext.refl _⟩
  refine RW_d _ rfl (fun v => by dsimp only [List.set]; try rfl) (fun u hu hF => ?_) (fun v46 => ?_)
  · have h13_ : v45 = (Pt b15 0) := hF.1
    clear hF
    refine doesG_un rfl ?_
    obtain rfl := h13_
    refine (does_load (u := (Iv x)) (ev rfl) Try.isAgg2 (Cells.at (Blk.cells (((hB17.ext E26).ext E34).ext hu)) 0 rfl)).mono ?_; rintro _ _ ⟨rfl, rfl⟩
    exact ⟨rfl, Ext.refl _⟩
  refine RW_d _ rfl (fun v => by dsimp only [List.set]; try rfl) (fun u hu hF => ?_) (fun v47 => ?_)
  · have h14_ : v46 = (Iv x) := hF.1
    clear hF
    refine doesG_un rfl ?_
    obtain rfl := h14_
    refine (does_conv_if (k := .f32) Try.underlying2 Try.underlying22 (ev rfl)).mono ?_; rintro _ _ ⟨rfl, rfl⟩
    exact ⟨rfl, Ext.refl _⟩
  refine RW_d _ rfl (fun v => by dsimp only [List.set]; try rfl) (fun u hu hF => ?_) (fun v48 => ?_)
  · have h12_ : v44 = (Fl r7) := hF.1
    have h15_ : v47 = (Fl (FloatKind.f32.nearest x)) := hF.2.1
    clear hF
    refine doesG_un rfl ?_
    obtain rfl := h12_
    obtain rfl := h15_
    refine (does_float (.inr (.inr (.inl rfl))) (ev rfl) (ev rfl)).mono ?_; rintro _ _ ⟨r, rfl, hr, hx⟩
    exact ⟨⟨r, rfl, (by simp only [hr])⟩, hx⟩
  refine RW_d _ rfl (fun v => by dsimp only [List.set]; try rfl) (fun u hu hF => ?_) (fun v49 => ?_)
  · clear hF
    refine doesG_un rfl ?_
    refine (does_move (u := (Pt g_b g_o)) (ev rfl)).mono ?_; rintro _ _ ⟨rfl, rfl⟩
    exact ⟨rfl, Ext.refl _⟩
  refine RW_d _ rfl (fun v => by dsimp only [List.set]; try rfl) (fun u hu hF => ?_) (fun v50 => ?_)
  · have h17_ : v49 = (Pt g_b g_o) := hF.1
    clear hF
    refine doesG_un rfl ?_
    obtain rfl := h17_
    refine (does_nilCheck (ev rfl)).mono ?_; rintro _ _ ⟨rfl, rfl⟩
    exact ⟨rfl, Ext.refl _⟩
  refine RW_d _ rfl (fun v => by dsimp only [List.set]; try rfl) (fun u hu hF => ?_) (fun v51 => ?_)
  · have h18_ : v50 = (Pt g_b g_o) := hF.1
    clear hF
    refine doesG_un rfl ?_
    obtain rfl := h18_
    refine (does_fieldAddr (ev rfl) fa31_1).mono ?_; rintro _ _ ⟨rfl, rfl⟩
    exact ⟨rfl, Ext.refl _⟩
  refine RW_d _ rfl (fun v => by dsimp only [List.set]; try rfl) (fun u hu hF => ?_) (fun v52 => ?_)
  · have h19_ : v51 = (Pt g_b (g_o + 3)) := hF.1
    clear hF
    refine doesG_un rfl ?_
    obtain rfl := h19_
    refine (does_load (u := (Fl r7)) (ev rfl) Try.isAgg22 (Cells.at ((hc_g.ext (Ext.gr X31 E34)).ext hu) 3 rfl)).mono ?_; rintro _ _ ⟨rfl, rfl⟩
    exact ⟨rfl, Ext.refl _⟩
  refine RW_d _ rfl (fun v => by dsimp only [List.set]; try rfl) (fun u hu hF => ?_) (fun v53 => ?_)
  · clear hF
    refine doesG_un rfl ?_
    refine (does_indexAt_run (r := (Pt b15 1)) (ev rfl) (ev rfl) (fun w => ia55_1 _ _ w)).mono ?_; rintro _ _ ⟨rfl, rfl⟩
    exact ⟨rfl, Ext.refl _⟩
  refine RW_d _ rfl (fun v => by dsimp only [List.set]; try rfl) (fun u hu hF => ?_) (fun v54 => ?_)
  · have h21_ : v53 = (Pt b15 1) := hF.1
    clear hF
    refine doesG_un rfl ?_
    obtain rfl := h21_
    refine (does_load (u := (Iv y)) (ev rfl) Try.isAgg2 (Cells.at (Blk.cells (((hB17.ext E26).ext E34).ext hu)) 1 rfl)).mono ?_; rintro _ _ ⟨rfl, rfl⟩
    exact ⟨rfl, Ext.refl _⟩
  refine RW_d _ rfl (fun v => by dsimp only [List.set]; try rfl) (fun u hu hF => ?_) (fun v55 => ?_)
  · have h22_ : v54 = (Iv y) := hF.1
    clear hF
    refine doesG_un rfl ?_
    obtain rfl := h22_
    refine (does_conv_if (k := .f32) Try.underlying2 Try.underlying22 (ev rfl)).mono ?_; rintro _ _ ⟨rfl, rfl⟩
    exact ⟨rfl, Ext.refl _⟩
  refine RW_d _ rfl (fun v => by dsimp only [List.set]; try rfl) (fun u hu hF => ?_) (fun v56 => ?_)
  · have h20_ : v52 = (Fl r7) := hF.1
    have h23_ : v55 = (Fl (FloatKind.f32.nearest y)) := hF.2.1
    clear hF
    refine doesG_un rfl ?_
    obtain rfl := h20_
    obtain rfl := h23_
    refine (does_float (.inr (.inr (.inl rfl))) (ev rfl) (ev rfl)).mono ?_; rintro _ _ ⟨r, rfl, hr, hx⟩
    exact ⟨⟨r, rfl, (by simp only [hr])⟩, hx⟩
  refine RW_d _ rfl (fun v => by dsimp only [List.set]; try rfl) (fun u hu hF => ?_) (fun v57 => ?_)
  · clear hF
    refine doesG_un rfl ?_
    refine (does_move (u := (Pt g_b g_o)) (ev rfl)).mono ?_; rintro _ _ ⟨rfl, rfl⟩
    exact ⟨rfl, Ext.refl _⟩
  refine RW_d _ rfl (fun v => by dsimp only [List.set]; try rfl) (fun u hu hF => ?_) (fun v58 => ?_)
  · have h25_ : v57 = (Pt g_b g_o) := hF.1
    clear hF
    refine doesG_un rfl ?_
    obtain rfl := h25_
    refine (does_nilCheck (ev rfl)).mono ?_; rintro _ _ ⟨rfl, rfl⟩
    exact ⟨rfl, Ext.refl _⟩
  refine RW_d _ rfl (fun v => by dsimp only [List.set]; try rfl) (fun u hu hF => ?_) (fun v59 => ?_)
  · have h26_ : v58 = (Pt g_b g_o) := hF.1
    clear hF
    refine doesG_un rfl ?_
    obtain rfl := h26_
    refine (does_fieldAddr (ev rfl) fa31_1).mono ?_; rintro _ _ ⟨rfl, rfl⟩
    exact ⟨rfl, Ext.refl _⟩
  refine RW_d _ rfl (fun v => by dsimp only [List.set]; try rfl) (fun u hu hF => ?_) (fun v60 => ?_)
  · have h27_ : v59 = (Pt g_b (g_o + 3)) := hF.1
    clear hF
    refine doesG_un rfl ?_
    obtain rfl := h27_
    refine (does_load (u := (Fl r7)) (ev rfl) Try.isAgg22 (Cells.at ((hc_g.ext (Ext.gr X31 E34)).ext hu) 3 rfl)).mono ?_; rintro _ _ ⟨rfl, rfl⟩
    exact ⟨rfl, Ext.refl _⟩
  refine RW_d _ rfl (fun v => by dsimp only [List.set]; try rfl) (fun u hu hF => ?_) (fun v61 => ?_)
  · clear hF
    refine doesG_un rfl ?_
    refine (does_indexAt_run (r := (Pt b15 2)) (ev rfl) (ev rfl) (fun w => ia55_2 _ _ w)).mono ?_; rintro _ _ ⟨rfl, rfl⟩
    exact ⟨rfl, Ext.refl _⟩
  refine RW_d _ rfl (fun v => by dsimp only [List.set]; try rfl) (fun u hu hF => ?_) (fun v62 => ?_)
  · have h29_ : v61 = (Pt b15 2) := hF.1
    clear hF
    refine doesG_un rfl ?_
    obtain rfl := h29_
    refine (does_load (u := (Iv z)) (ev rfl) Try.isAgg2 (Cells.at (Blk.cells (((hB17.ext E26).ext E34).ext hu)) 2 rfl)).mono ?_; rintro _ _ ⟨rfl, rfl⟩
    exact ⟨rfl, Ext.refl _⟩
  refine RW_d _ rfl (fun v => by dsimp only [List.set]; try rfl) (fun u hu hF => ?_) (fun v63 => ?_)
  · have h30_ : v62 = (Iv z) := hF.1
    clear hF
    refine doesG_un rfl ?_
    obtain rfl := h30_
    refine (does_conv_if (k := .f32) Try.underlying2 Try.underlying22 (ev rfl)).mono ?_; rintro _ _ ⟨rfl, rfl⟩
    exact ⟨rfl, Ext.refl _⟩
  refine RW_d _ rfl (fun v => by dsimp only [List.set]; try rfl) (fun u hu hF => ?_) (fun v64 => ?_)
  · have h28_ : v60 = (Fl r7) := hF.1
    have h31_ : v63 = (Fl (FloatKind.f32.nearest z)) := hF.2.1
    clear hF
    refine doesG_un rfl ?_
    obtain rfl := h28_
    obtain rfl := h31_
    refine (does_float (.inr (.inr (.inl rfl))) (ev rfl) (ev rfl)).mono ?_; rintro _ _ ⟨r, rfl, hr, hx⟩
    exact ⟨⟨r, rfl, (by simp only [hr])⟩, hx⟩
  refine RW_d _ rfl (fun v => by dsimp only [List.set]; try rfl) (fun u hu hF => ?_) (fun v65 => ?_)
  · have h16_ : ∃ r_1 : Nat, v48 = (Fl r_1) ∧ cf .f32 r_1 = fop .mul .f32 (cf .f32 r7) (cf .f32 (FloatKind.f32.nearest x)) := hF.1
    have h24_ : ∃ r_1 : Nat, v56 = (Fl r_1) ∧ cf .f32 r_1 = fop .mul .f32 (cf .f32 r7) (cf .f32 (FloatKind.f32.nearest y)) := hF.2.1
    have h32_ : ∃ r_1 : Nat, v64 = (Fl r_1) ∧ cf .f32 r_1 = fop .mul .f32 (cf .f32 r7) (cf .f32 (FloatKind.f32.nearest z)) := hF.2.2.1
    clear hF
    refine doesG_un rfl ?_
    obtain ⟨r16_1, rfl, h16_2⟩ := h16_
    obtain ⟨r24_1, rfl, h24_2⟩ := h24_
    obtain ⟨r32_1, rfl, h32_2⟩ := h32_
    refine (does_build (parts' := [(0, (Fl r16_1)), (1, (Fl r24_1)), (2, (Fl r32_1))]) (cells := #[(Fl r16_1), (Fl r24_1), (Fl r32_1)]) (evp rfl) (by kernel_rfl)).mono ?_; rintro _ _ ⟨rfl, rfl⟩
    exact ⟨⟨r16_1, r24_1, r32_1, rfl, (by simp only [h16_2, h24_2, h32_2]), (by simp only [h16_2, h24_2, h32_2]), (by simp only [h16_2, h24_2, h32_2])⟩, Ext.refl _⟩
  refine RW_d _ rfl (fun v => by dsimp only [List.set]; try rfl) (fun u hu hF => ?_) (fun v66 => ?_)
  · have h8_ : v40 = (.agg #[(Fl r1), (Fl r3), (Fl r5)]) := hF.1
    have h33_ : ∃ r_1 : Nat, ∃ r_2 : Nat, ∃ r_3 : Nat, v65 = (.agg #[(Fl r_1), (Fl r_2), (Fl r_3)]) ∧ cf .f32 r_1 = fop .mul .f32 (cf .f32 r7) (cf .f32 (FloatKind.f32.nearest x)) ∧ cf .f32 r_2 = fop .mul .f32 (cf .f32 r7) (cf .f32 (FloatKind.f32.nearest y)) ∧ cf .f32 r_3 = fop .mul .f32 (cf .f32 r7) (cf .f32 (FloatKind.f32.nearest z)) := hF.2.1
    clear hF
    refine doesG_un rfl ?_
    obtain rfl := h8_
    obtain ⟨r33_1, r33_3, r33_5, rfl, h33_2, h33_4, h33_6⟩ := h33_
    refine (does_call (args := #[(.agg #[(Fl r1), (Fl r3), (Fl r5)]), (.agg #[(Fl r33_1), (Fl r33_3), (Fl r33_5)])]) cal55 (evs rfl) (c_impl_AddVectors [(Fl r1), (Fl r3), (Fl r5)] A_g.low [(Fl r33_1), (Fl r33_3), (Fl r33_5)] (V3.mk (fop .mul .f32 (cf .f32 r7) (cf .f32 (FloatKind.f32.nearest x))) (fop .mul .f32 (cf .f32 r7) (cf .f32 (FloatKind.f32.nearest y))) (fop .mul .f32 (cf .f32 r7) (cf .f32 (FloatKind.f32.nearest z)))) _ ⟨r1, r3, r5, rfl, h2, h4, h6⟩ ⟨r33_1, r33_3, r33_5, rfl, (by assumption), (by assumption), (by assumption)⟩)).mono ?_; rintro v u' ⟨hx, ⟨csn1, hv, k0⟩⟩
    exact ⟨⟨csn1, hv.trans (by simp only [h33_2, h33_4, h33_6]), (by first | exact k0 | simpa only [h33_2, h33_4, h33_6] using RV3.any (w := w) k0)⟩, hx⟩
  refine RW_fin ?_; intro w67 E68 hP69
  obtain ⟨⟨⟨⟨⟨⟨⟨⟨⟨⟨⟨⟨⟨⟨⟨⟨⟨⟨⟨⟨⟨⟨⟨⟨⟨⟨⟨⟨⟨⟨-, -⟩, -⟩, -⟩, -⟩, -⟩, -⟩, -⟩, -⟩, -⟩, -⟩, -⟩, -⟩, -⟩, -⟩, -⟩, -⟩, -⟩, -⟩, -⟩, -⟩, -⟩, -⟩, -⟩, -⟩, -⟩, -⟩, -⟩, -⟩, -⟩, q70⟩ := hP69
  have X71 := Ext.gr X36 E68
  have q70 : ∃ cs_1 : List Value, v66 = (.agg cs_1.toArray) ∧ RV3 w (vadd A_g.low (V3.mk (fop .mul .f32 (cf .f32 r7) (cf .f32 (FloatKind.f32.nearest x))) (fop .mul .f32 (cf .f32 r7) (cf .f32 (FloatKind.f32.nearest y))) (fop .mul .f32 (cf .f32 r7) (cf .f32 (FloatKind.f32.nearest z))))) cs_1 := q70
  obtain ⟨_, rfl, ⟨r72, r74, r76, rfl, h73, h75, h77⟩⟩ := q70
  show wpList _ _ _ _ (fr [(Pt g_b g_o), (.agg #[(Iv x), (Iv y), (Iv z)]), Ud, (Pt b15 0), (Pt b23 0), v37, v38, v39, v40, v41, v42, v43, v44, v45, v46, v47, v48, v49, v50, v51, v52, v53, v54, v55, v56, v57, v58, v59, v60, v61, v62, v63, v64, v65, (.agg #[(Fl r72), (Fl r74), (Fl r76)])]) _
  refine seqn rfl rfl (does_store (n := 3) (cs := [(Fl 0), (Fl 0), (Fl 0)]) (u := (.agg #[(Fl r72), (Fl r74), (Fl r76)])) (ev rfl) (ev rfl) Try.sizeOf29 rfl ((hB25.ext E34).ext E68) (Nat.le_of_ble_eq_true rfl) rfl) ?_; rintro _ w80 ⟨rfl, W78, hB79⟩
  change Blk _ _ [(Fl r72), (Fl r74), (Fl r76)] at hB79
  have X81 := Below.wr X71 W78 g30
  refine wpList_nil (hK32 _ _ ?_)
  refine wp_ret ?_
  refine ret_val (v := (.agg #[(Fl r72), (Fl r74), (Fl r76)])) (res_C rfl (slot rfl) (run_loadAgg (cs := [(Fl r72), (Fl r74), (Fl r76)]) Try.isAgg29 Try.sizeOf29 (Blk.cells hB79) rfl)) X81 ?_
  have x82 : cf .f32 r72 = (ptG A_g.low A_g.step x y z).x := by first | with_reducible rfl | (simp only [ptG, nrF, h2, h4, h6, h8, h73, h75, h77]; done) | (simp [ptG, nrF, h2, h4, h6, h8, h73, h75, h77]; done) | rfl
  have x83 : cf .f32 r74 = (ptG A_g.low A_g.step x y z).y := by first | with_reducible rfl | (simp only [ptG, nrF, h2, h4, h6, h8, h73, h75, h77]; done) | (simp [ptG, nrF, h2, h4, h6, h8, h73, h75, h77]; done) | rfl
  have x84 : cf .f32 r76 = (ptG A_g.low A_g.step x y z).z := by first | with_reducible rfl | (simp only [ptG, nrF, h2, h4, h6, h8, h73, h75, h77]; done) | (simp [ptG, nrF, h2, h4, h6, h8, h73, h75, h77]; done) | rfl
  exact ⟨[(Fl r72), (Fl r74), (Fl r76)], rfl, ⟨r72, r74, r76, rfl, x82, x83, x84⟩⟩

/- impl.CropGrid$1 -/
theorem c_impl_CropGrid_1 (x : Int) (y : Int) (z : Int) (pf_b : Nat) (pf_o : Nat) (fx : Int) (fy : Int) (fz : Int) (w : World) (hc_pf : Cells w pf_b pf_o [(Iv fx), (Iv fy), (Iv fz)]) : Gives Try.prog 42 #[(.agg #[(Iv x), (Iv y), (Iv z)]), (Pt pf_b pf_o)] w (fun v w' => v = (.agg #[(Iv (IntKind.i64.wrap (fx + x))), (Iv (IntKind.i64.wrap (fy + y))), (Iv (IntKind.i64.wrap (fz + z)))])) := by
  refine enter [(.agg #[(Iv x), (Iv y), (Iv z)]), (Pt pf_b pf_o), Ud, Ud, Ud, Ud, Ud, Ud, Ud, Ud, Ud, Ud, Ud, Ud, Ud, Ud, Ud, Ud, Ud, Ud] Try.func42 rfl Try.ntmps42 rfl ?_
  refine wp_seq_k fun K1 hK1 => ?_
  refine wp_region_lit ?_
  refine seqd rfl rfl (does_box (u := (.agg #[(Iv x), (Iv y), (Iv z)])) (ev rfl)) ?_; rintro _ w6 ⟨b2, rfl, hb3, hB4, E5⟩
  have n7 : pf_b < b2 := Nat.lt_of_lt_of_le (cell_lt (Cells.at hc_pf 0 rfl)) hb3
  have g8 : w.heap.size ≤ b2 := Nat.le_trans (Below.size (Ext.refl w)) hb3
  change Blk _ _ [(Iv x), (Iv y), (Iv z)] at hB4
  have X9 := Ext.gr (Ext.refl w) E5
  show wpList _ _ _ _ (fr [(.agg #[(Iv x), (Iv y), (Iv z)]), (Pt pf_b pf_o), (Pt b2 0), Ud, Ud, Ud, Ud, Ud, Ud, Ud, Ud, Ud, Ud, Ud, Ud, Ud, Ud, Ud, Ud, Ud]) _
  refine seqd rfl rfl (does_alloc z55) ?_; rintro _ w14 ⟨b10, rfl, hb11, hB12, E13⟩
  have n15 : pf_b < b10 := Nat.lt_of_lt_of_le (cell_lt (Cells.at (hc_pf.ext X9) 0 rfl)) hb11
  have n16 : b2 < b10 := Nat.lt_of_lt_of_le (Blk.lt hB4) hb11
  have g17 : w.heap.size ≤ b10 := Nat.le_trans (Below.size X9) hb11
  change Blk _ _ [(Iv 0), (Iv 0), (Iv 0)] at hB12
  have X18 := Ext.gr X9 E13
  show wpList _ _ _ _ (fr [(.agg #[(Iv x), (Iv y), (Iv z)]), (Pt pf_b pf_o), (Pt b2 0), (Pt b10 0), Ud, Ud, Ud, Ud, Ud, Ud, Ud, Ud, Ud, Ud, Ud, Ud, Ud, Ud, Ud, Ud]) _
  refine wpList_nil (hK1 _ _ ?_)
  refine wp_seq_k fun K19 hK19 => ?_
  refine wp_region_lit ?_
  refine q_is (l' := [(.agg #[(Iv x), (Iv y), (Iv z)]), (Pt pf_b pf_o), (Pt b2 0), (Pt b10 0), (Pt b2 0), Ud, Ud, Ud, Ud, Ud, Ud, Ud, Ud, Ud, Ud, Ud, Ud, Ud, Ud, Ud]) rfl rfl (does_indexAt_run (r := (Pt b2 0)) (ev rfl) (ev rfl) (fun w => ia55_0 _ _ w)) rfl ?_
  refine q_is (l' := [(.agg #[(Iv x), (Iv y), (Iv z)]), (Pt pf_b pf_o), (Pt b2 0), (Pt b10 0), (Pt b2 0), (Iv x), Ud, Ud, Ud, Ud, Ud, Ud, Ud, Ud, Ud, Ud, Ud, Ud, Ud, Ud]) rfl rfl (does_load (u := (Iv x)) (ev rfl) Try.isAgg2 (Cells.at (Blk.cells (hB4.ext E13)) 0 rfl)) rfl ?_
  refine q_is (l' := [(.agg #[(Iv x), (Iv y), (Iv z)]), (Pt pf_b pf_o), (Pt b2 0), (Pt b10 0), (Pt b2 0), (Iv x), (Pt pf_b pf_o), Ud, Ud, Ud, Ud, Ud, Ud, Ud, Ud, Ud, Ud, Ud, Ud, Ud]) rfl rfl (does_indexAt_run (r := (Pt pf_b pf_o)) (ev rfl) (ev rfl) (fun w => ia55_0 _ _ w)) rfl ?_
  refine q_is (l' := [(.agg #[(Iv x), (Iv y), (Iv z)]), (Pt pf_b pf_o), (Pt b2 0), (Pt b10 0), (Pt b2 0), (Iv x), (Pt pf_b pf_o), (Iv fx), Ud, Ud, Ud, Ud, Ud, Ud, Ud, Ud, Ud, Ud, Ud, Ud]) rfl rfl (does_load (u := (Iv fx)) (ev rfl) Try.isAgg2 (Cells.at (hc_pf.ext X18) 0 rfl)) rfl ?_
  refine q_is (l' := [(.agg #[(Iv x), (Iv y), (Iv z)]), (Pt pf_b pf_o), (Pt b2 0), (Pt b10 0), (Pt b2 0), (Iv x), (Pt pf_b pf_o), (Iv fx), (Iv (IntKind.i64.wrap (x + fx))), Ud, Ud, Ud, Ud, Ud, Ud, Ud, Ud, Ud, Ud, Ud]) rfl rfl (does_iarith (p := x) (q := fx) (r := IntKind.i64.wrap (x + fx)) (ev rfl) (ev rfl) (.inl ⟨rfl, rfl⟩)) rfl ?_
  refine q_is (l' := [(.agg #[(Iv x), (Iv y), (Iv z)]), (Pt pf_b pf_o), (Pt b2 0), (Pt b10 0), (Pt b2 0), (Iv x), (Pt pf_b pf_o), (Iv fx), (Iv (IntKind.i64.wrap (x + fx))), (Pt b2 1), Ud, Ud, Ud, Ud, Ud, Ud, Ud, Ud, Ud, Ud]) rfl rfl (does_indexAt_run (r := (Pt b2 1)) (ev rfl) (ev rfl) (fun w => ia55_1 _ _ w)) rfl ?_
  refine q_is (l' := [(.agg #[(Iv x), (Iv y), (Iv z)]), (Pt pf_b pf_o), (Pt b2 0), (Pt b10 0), (Pt b2 0), (Iv x), (Pt pf_b pf_o), (Iv fx), (Iv (IntKind.i64.wrap (x + fx))), (Pt b2 1), (Iv y), Ud, Ud, Ud, Ud, Ud, Ud, Ud, Ud, Ud]) rfl rfl (does_load (u := (Iv y)) (ev rfl) Try.isAgg2 (Cells.at (Blk.cells (hB4.ext E13)) 1 rfl)) rfl ?_
  refine q_is (l' := [(.agg #[(Iv x), (Iv y), (Iv z)]), (Pt pf_b pf_o), (Pt b2 0), (Pt b10 0), (Pt b2 0), (Iv x), (Pt pf_b pf_o), (Iv fx), (Iv (IntKind.i64.wrap (x + fx))), (Pt b2 1), (Iv y), (Pt pf_b (pf_o + 1)), Ud, Ud, Ud, Ud, Ud, Ud, Ud, Ud]) rfl rfl (does_indexAt_run (r := (Pt pf_b (pf_o + 1))) (ev rfl) (ev rfl) (fun w => ia55_1 _ _ w)) rfl ?_
  refine q_is (l' := [(.agg #[(Iv x), (Iv y), (Iv z)]), (Pt pf_b pf_o), (Pt b2 0), (Pt b10 0), (Pt b2 0), (Iv x), (Pt pf_b pf_o), (Iv fx), (Iv (IntKind.i64.wrap (x + fx))), (Pt b2 1), (Iv y), (Pt pf_b (pf_o + 1)), (Iv fy), Ud, Ud, Ud, Ud, Ud, Ud, Ud]) rfl rfl (does_load (u := (Iv fy)) (ev rfl) Try.isAgg2 (Cells.at (hc_pf.ext X18) 1 rfl)) rfl ?_
  refine q_is (l' := [(.agg #[(Iv x), (Iv y), (Iv z)]), (Pt pf_b pf_o), (Pt b2 0), (Pt b10 0), (Pt b2 0), (Iv x), (Pt pf_b pf_o), (Iv fx), (Iv (IntKind.i64.wrap (x + fx))), (Pt b2 1), (Iv y), (Pt pf_b (pf_o + 1)), (Iv fy), (Iv (IntKind.i64.wrap (y + fy))), Ud, Ud, Ud, Ud, Ud, Ud]) rfl rfl (does_iarith (p := y) (q := fy) (r := IntKind.i64.wrap (y + fy)) (ev rfl) (ev rfl) (.inl ⟨rfl, rfl⟩)) rfl ?_
  refine q_is (l' := [(.agg #[(Iv x), (Iv y), (Iv z)]), (Pt pf_b pf_o), (Pt b2 0), (Pt b10 0), (Pt b2 0), (Iv x), (Pt pf_b pf_o), (Iv fx), (Iv (IntKind.i64.wrap (x + fx))), (Pt b2 1), (Iv y), (Pt pf_b (pf_o + 1)), (Iv fy), (Iv (IntKind.i64.wrap (y + fy))), (Pt b2 2), Ud, Ud, Ud, Ud, Ud]) rfl rfl (does_indexAt_run (r := (Pt b2 2)) (ev rfl) (ev rfl) (fun w => ia55_2 _ _ w)) rfl ?_
  refine q_is (l' := [(.agg #[(Iv x), (Iv y), (Iv z)]), (Pt pf_b pf_o), (Pt b2 0), (Pt b10 0), (Pt b2 0), (Iv x), (Pt pf_b pf_o), (Iv fx), (Iv (IntKind.i64.wrap (x + fx))), (Pt b2 1), (Iv y), (Pt pf_b (pf_o + 1)), (Iv fy), (Iv (IntKind.i64.wrap (y + fy))), (Pt b2 2), (Iv z), Ud, Ud, Ud, Ud]) rfl rfl (does_load (u := (Iv z)) (ev rfl) Try.isAgg2 (Cells.at (Blk.cells (hB4.ext E13)) 2 rfl)) rfl ?_
  refine q_is (l' := [(.agg #[(Iv x), (Iv y), (Iv z)]), (Pt pf_b pf_o), (Pt b2 0), (Pt b10 0), (Pt b2 0), (Iv x), (Pt pf_b pf_o), (Iv fx), (Iv (IntKind.i64.wrap (x + fx))), (Pt b2 1), (Iv y), (Pt pf_b (pf_o + 1)), (Iv fy), (Iv (IntKind.i64.wrap (y + fy))), (Pt b2 2), (Iv z), (Pt pf_b (pf_o + 2)), Ud, Ud, Ud]) rfl rfl (does_indexAt_run (r := (Pt pf_b (pf_o + 2))) (ev rfl) (ev rfl) (fun w => ia55_2 _ _ w)) rfl ?_
  refine q_is (l' := [(.agg #[(Iv x), (Iv y), (Iv z)]), (Pt pf_b pf_o), (Pt b2 0), (Pt b10 0), (Pt b2 0), (Iv x), (Pt pf_b pf_o), (Iv fx), (Iv (IntKind.i64.wrap (x + fx))), (Pt b2 1), (Iv y), (Pt pf_b (pf_o + 1)), (Iv fy), (Iv (IntKind.i64.wrap (y + fy))), (Pt b2 2), (Iv z), (Pt pf_b (pf_o + 2)), (Iv fz), Ud, Ud]) rfl rfl (does_load (u := (Iv fz)) (ev rfl) Try.isAgg2 (Cells.at (hc_pf.ext X18) 2 rfl)) rfl ?_
  refine q_is (l' := [(.agg #[(Iv x), (Iv y), (Iv z)]), (Pt pf_b pf_o), (Pt b2 0), (Pt b10 0), (Pt b2 0), (Iv x), (Pt pf_b pf_o), (Iv fx), (Iv (IntKind.i64.wrap (x + fx))), (Pt b2 1), (Iv y), (Pt pf_b (pf_o + 1)), (Iv fy), (Iv (IntKind.i64.wrap (y + fy))), (Pt b2 2), (Iv z), (Pt pf_b (pf_o + 2)), (Iv fz), (Iv (IntKind.i64.wrap (z + fz))), Ud]) rfl rfl (does_iarith (p := z) (q := fz) (r := IntKind.i64.wrap (z + fz)) (ev rfl) (ev rfl) (.inl ⟨rfl, rfl⟩)) rfl ?_
  refine q_is (l' := [(.agg #[(Iv x), (Iv y), (Iv z)]), (Pt pf_b pf_o), (Pt b2 0), (Pt b10 0), (Pt b2 0), (Iv x), (Pt pf_b pf_o), (Iv fx), (Iv (IntKind.i64.wrap (x + fx))), (Pt b2 1), (Iv y), (Pt pf_b (pf_o + 1)), (Iv fy), (Iv (IntKind.i64.wrap (y + fy))), (Pt b2 2), (Iv z), (Pt pf_b (pf_o + 2)), (Iv fz), (Iv (IntKind.i64.wrap (z + fz))), (.agg #[(Iv (IntKind.i64.wrap (x + fx))), (Iv (IntKind.i64.wrap (y + fy))), (Iv (IntKind.i64.wrap (z + fz)))])]) rfl rfl (does_build (parts' := [(0, (Iv (IntKind.i64.wrap (x + fx)))), (1, (Iv (IntKind.i64.wrap (y + fy)))), (2, (Iv (IntKind.i64.wrap (z + fz))))]) (cells := #[(Iv (IntKind.i64.wrap (x + fx))), (Iv (IntKind.i64.wrap (y + fy))), (Iv (IntKind.i64.wrap (z + fz)))]) (evp rfl) (by kernel_rfl)) rfl ?_
  refine seqn rfl rfl (does_store (n := 3) (cs := [(Iv 0), (Iv 0), (Iv 0)]) (u := (.agg #[(Iv (IntKind.i64.wrap (x + fx))), (Iv (IntKind.i64.wrap (y + fy))), (Iv (IntKind.i64.wrap (z + fz)))])) (ev rfl) (ev rfl) Try.sizeOf55 rfl hB12 (Nat.le_of_ble_eq_true rfl) rfl) ?_; rintro _ w22 ⟨rfl, W20, hB21⟩
  change Blk _ _ [(Iv (IntKind.i64.wrap (x + fx))), (Iv (IntKind.i64.wrap (y + fy))), (Iv (IntKind.i64.wrap (z + fz)))] at hB21
  have X23 := Below.wr X18 W20 g17
  refine wpList_nil (hK19 _ _ ?_)
  refine wp_ret ?_
  refine ret_val (v := (.agg #[(Iv (IntKind.i64.wrap (x + fx))), (Iv (IntKind.i64.wrap (y + fy))), (Iv (IntKind.i64.wrap (z + fz)))])) (res_C rfl (slot rfl) (run_loadAgg (cs := [(Iv (IntKind.i64.wrap (x + fx))), (Iv (IntKind.i64.wrap (y + fy))), (Iv (IntKind.i64.wrap (z + fz)))]) Try.isAgg55 Try.sizeOf55 (Blk.cells hB21) rfl)) X23 ?_
  have x24 : (IntKind.i64.wrap (fx + x) : Int) = (IntKind.i64.wrap (x + fx)) := by first | rfl | (rw [Int.add_comm])
  have x25 : (IntKind.i64.wrap (fy + y) : Int) = (IntKind.i64.wrap (y + fy)) := by first | rfl | (rw [Int.add_comm])
  have x26 : (IntKind.i64.wrap (fz + z) : Int) = (IntKind.i64.wrap (z + fz)) := by first | rfl | (rw [Int.add_comm])
  exact (by first | rfl | rw [x24, x25, x26] | rw [x26, x25, x24])

end Go.Proofs.Ytffmjlalacnfiaa
