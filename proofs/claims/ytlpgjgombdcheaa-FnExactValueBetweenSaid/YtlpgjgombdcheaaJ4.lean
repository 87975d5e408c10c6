/- contracts of functions, each walked once -/
import Derived.Test.YtlpgjgombdcheaaJ3
namespace Go.Proofs.Ytlpgjgombdcheaa
open Go Go.RowKit
set_option maxRecDepth 100000
set_option maxHeartbeats 3200000
set_option linter.unusedVariables false
set_option linter.unusedSimpArgs false

/- impl.ValueBetween -/
theorem c_impl_ValueBetween (g : List Value) (A_g : GridT) (p : List Value) (A_p : V3) (w : World) (hv_g : RGridT w A_g g) (hv_p : RV3 w A_p p) : Gives Try.prog 9 #[(.agg g.toArray), (.agg p.toArray)] w (fun v w' => ∃ r_1 : Nat, v = (.tuple #[(Fl r_1), (Bo (vbtOk A_g A_p))]) ∧ cf .f32 r_1 = vbtG A_g A_p) := by
  obtain ⟨r1, r3, r5, r7, y9, rfl, h2, h4, h6, h8, h10⟩ := hv_g
  obtain ⟨r11, r13, r15, rfl, h12, h14, h16⟩ := hv_p
  have hs19 := h10; have hs19l := Sl.len h10; obtain ⟨p17, q18, rfl⟩ := Sl.shape h10
  refine enter [(.agg #[(Fl r1), (Fl r3), (Fl r5), (Fl r7), (Iv A_g.x), (Iv A_g.y), (Iv A_g.z), (.slice p17 A_g.vals.length q18)]), (.agg #[(Fl r11), (Fl r13), (Fl r15)]), Ud, Ud, Ud, Ud, Ud, Ud, Ud, Ud, Ud, Ud, Ud, Ud, Ud, Ud] Try.func9 rfl Try.ntmps9 rfl ?_
  refine wp_seq_k fun K20 hK20 => ?_
  refine wp_region_lit ?_
  refine seqd rfl rfl (does_box (u := (.agg #[(Fl r1), (Fl r3), (Fl r5), (Fl r7), (Iv A_g.x), (Iv A_g.y), (Iv A_g.z), (.slice p17 A_g.vals.length q18)])) (ev rfl)) ?_; rintro _ w25 ⟨b21, rfl, hb22, hB23, E24⟩
  have g26 : w.heap.size ≤ b21 := Nat.le_trans (Below.size (Ext.refl w)) hb22
  change Blk _ _ [(Fl r1), (Fl r3), (Fl r5), (Fl r7), (Iv A_g.x), (Iv A_g.y), (Iv A_g.z), (.slice p17 A_g.vals.length q18)] at hB23
  have X27 := Ext.gr (Ext.refl w) E24
  show wpList _ _ _ _ (fr [(.agg #[(Fl r1), (Fl r3), (Fl r5), (Fl r7), (Iv A_g.x), (Iv A_g.y), (Iv A_g.z), (.slice p17 A_g.vals.length q18)]), (.agg #[(Fl r11), (Fl r13), (Fl r15)]), (Pt b21 0), Ud, Ud, Ud, Ud, Ud, Ud, Ud, Ud, Ud, Ud, Ud, Ud, Ud]) _
  refine seqd rfl rfl (does_box (u := (.agg #[(Fl r11), (Fl r13), (Fl r15)])) (ev rfl)) ?_; rintro _ w32 ⟨b28, rfl, hb29, hB30, E31⟩
  have n33 : b21 < b28 := Nat.lt_of_lt_of_le (Blk.lt hB23) hb29
  have g34 : w.heap.size ≤ b28 := Nat.le_trans (Below.size X27) hb29
  change Blk _ _ [(Fl r11), (Fl r13), (Fl r15)] at hB30
  have X35 := Ext.gr X27 E31
  show wpList _ _ _ _ (fr [(.agg #[(Fl r1), (Fl r3), (Fl r5), (Fl r7), (Iv A_g.x), (Iv A_g.y), (Iv A_g.z), (.slice p17 A_g.vals.length q18)]), (.agg #[(Fl r11), (Fl r13), (Fl r15)]), (Pt b21 0), (Pt b28 0), Ud, Ud, Ud, Ud, Ud, Ud, Ud, Ud, Ud, Ud, Ud, Ud]) _
  refine q_is (l' := [(.agg #[(Fl r1), (Fl r3), (Fl r5), (Fl r7), (Iv A_g.x), (Iv A_g.y), (Iv A_g.z), (.slice p17 A_g.vals.length q18)]), (.agg #[(Fl r11), (Fl r13), (Fl r15)]), (Pt b21 0), (Pt b28 0), (Fl 0), Ud, Ud, Ud, Ud, Ud, Ud, Ud, Ud, Ud, Ud, Ud]) rfl rfl (does_assign (u := (Fl 0)) (ev rfl)) rfl ?_
  refine q_is (l' := [(.agg #[(Fl r1), (Fl r3), (Fl r5), (Fl r7), (Iv A_g.x), (Iv A_g.y), (Iv A_g.z), (.slice p17 A_g.vals.length q18)]), (.agg #[(Fl r11), (Fl r13), (Fl r15)]), (Pt b21 0), (Pt b28 0), (Fl 0), (Bo false), Ud, Ud, Ud, Ud, Ud, Ud, Ud, Ud, Ud, Ud]) rfl rfl (does_assign (u := (Bo false)) (ev rfl)) rfl ?_
  refine wpList_nil (hK20 _ _ ?_)
  refine wp_seq_k fun K36 hK36 => ?_
  refine wp_seq_k fun K37 hK37 => ?_
  obtain ⟨β1, hβ1⟩ : ∃ b : Bool, b = ((!(isGrid A_g)) || (!(finV A_p))) := ⟨_, rfl⟩
  refine region_text (
    [Fact.pure [] (fun v => v = (.agg #[(Fl r1), (Fl r3), (Fl r5), (Fl r7), (Iv A_g.x), (Iv A_g.y), (Iv A_g.z), (.slice p17 A_g.vals.length q18)])),
    Fact.pure [6] (fun v => v = (Bo (isGrid A_g))),
    Fact.pure [7] (fun v => v = (Bo (!(isGrid A_g)))),
    Fact.pure [8] (fun v => v = (Bo (!(isGrid A_g)))),
    Fact.pure [9] (fun v => (!(isGrid A_g)) = false → v = (.agg #[(Fl r11), (Fl r13), (Fl r15)])),
    Fact.pure [10, 9] (fun v => (!(isGrid A_g)) = false → v = (Bo (finV A_p))),
    Fact.pure [11, 9] (fun v => (!(isGrid A_g)) = false → v = (Bo (!(finV A_p)))),
    Fact.pure [9, 12] (fun v => v = (Bo β1))]) (by simp [Fact.pure, Fact.mem]) ?_
  refine RW_d (fun v38 => [(.agg #[(Fl r1), (Fl r3), (Fl r5), (Fl r7), (Iv A_g.x), (Iv A_g.y), (Iv A_g.z), (.slice p17 A_g.vals.length q18)]), (.agg #[(Fl r11), (Fl r13), (Fl r15)]), (Pt b21 0), (Pt b28 0), (Fl 0), (Bo false), v38, Ud, Ud, Ud, Ud, Ud, Ud, Ud, Ud, Ud]) rfl (fun _ => rfl) (fun u hu hF => ?_) (fun v38 => ?_)
  · clear hF
    refine doesG_un rfl ?_
    refine (does_loadAgg (cs := [(Fl r1), (Fl r3), (Fl r5), (Fl r7), (Iv A_g.x), (Iv A_g.y), (Iv A_g.z), (.slice p17 A_g.vals.length q18)]) (ev rfl) Try.isAgg33 Try.sizeOf33 (Blk.cells ((hB23.ext E31).ext hu)) rfl).mono ?_; rintro _ _ ⟨rfl, rfl⟩
    exact ⟨rfl, Ext.refl _⟩
  refine RW_d (fun v39 => [(.agg #[(Fl r1), (Fl r3), (Fl r5), (Fl r7), (Iv A_g.x), (Iv A_g.y), (Iv A_g.z), (.slice p17 A_g.vals.length q18)]), (.agg #[(Fl r11), (Fl r13), (Fl r15)]), (Pt b21 0), (Pt b28 0), (Fl 0), (Bo false), v38, v39, Ud, Ud, Ud, Ud, Ud, Ud, Ud, Ud]) rfl (fun _ => rfl) (fun u hu hF => ?_) (fun v39 => ?_)
  · have h6_ : v38 = (.agg #[(Fl r1), (Fl r3), (Fl r5), (Fl r7), (Iv A_g.x), (Iv A_g.y), (Iv A_g.z), (.slice p17 A_g.vals.length q18)]) := hF.1
    clear hF
    refine doesG_un rfl ?_
    obtain rfl := h6_
    refine (does_call (args := #[(.agg #[(Fl r1), (Fl r3), (Fl r5), (Fl r7), (Iv A_g.x), (Iv A_g.y), (Iv A_g.z), (.slice p17 A_g.vals.length q18)])]) cal20 (evs rfl) (c_impl_ValidGrid [(Fl r1), (Fl r3), (Fl r5), (Fl r7), (Iv A_g.x), (Iv A_g.y), (Iv A_g.z), (.slice p17 A_g.vals.length q18)] A_g _ ⟨r1, r3, r5, r7, (.slice p17 A_g.vals.length q18), rfl, h2, h4, h6, h8, (Sl.ext (Sl.ext hs19 RF.mono X35) RF.mono hu)⟩)).mono ?_; rintro v u' ⟨hx, hv⟩
    exact ⟨hv, hx⟩
  refine RW_d (fun v40 => [(.agg #[(Fl r1), (Fl r3), (Fl r5), (Fl r7), (Iv A_g.x), (Iv A_g.y), (Iv A_g.z), (.slice p17 A_g.vals.length q18)]), (.agg #[(Fl r11), (Fl r13), (Fl r15)]), (Pt b21 0), (Pt b28 0), (Fl 0), (Bo false), v38, v39, v40, Ud, Ud, Ud, Ud, Ud, Ud, Ud]) rfl (fun _ => rfl) (fun u hu hF => ?_) (fun v40 => ?_)
  · have h7_ : v39 = (Bo (isGrid A_g)) := hF.1
    clear hF
    refine doesG_un rfl ?_
    obtain rfl := h7_
    refine (does_not (ev rfl)).mono ?_; rintro _ _ ⟨rfl, rfl⟩
    exact ⟨rfl, Ext.refl _⟩
  refine RW_d (fun v41 => [(.agg #[(Fl r1), (Fl r3), (Fl r5), (Fl r7), (Iv A_g.x), (Iv A_g.y), (Iv A_g.z), (.slice p17 A_g.vals.length q18)]), (.agg #[(Fl r11), (Fl r13), (Fl r15)]), (Pt b21 0), (Pt b28 0), (Fl 0), (Bo false), v38, v39, v40, v41, Ud, Ud, Ud, Ud, Ud, Ud]) rfl (fun _ => rfl) (fun u hu hF => ?_) (fun v41 => ?_)
  · have h8_ : v40 = (Bo (!(isGrid A_g))) := hF.1
    clear hF
    refine doesG_un rfl ?_
    obtain rfl := h8_
    refine (does_move (u := (Bo (!(isGrid A_g)))) (ev rfl)).mono ?_; rintro _ _ ⟨rfl, rfl⟩
    exact ⟨rfl, Ext.refl _⟩
  refine RW_d (fun v42 => [(.agg #[(Fl r1), (Fl r3), (Fl r5), (Fl r7), (Iv A_g.x), (Iv A_g.y), (Iv A_g.z), (.slice p17 A_g.vals.length q18)]), (.agg #[(Fl r11), (Fl r13), (Fl r15)]), (Pt b21 0), (Pt b28 0), (Fl 0), (Bo false), v38, v39, v40, v41, v42, Ud, Ud, Ud, Ud, Ud]) rfl (fun _ => rfl) (fun u hu hF => ?_) (fun v42 => ?_)
  · have h9_ : v41 = (Bo (!(isGrid A_g))) := hF.1
    clear hF
    obtain rfl := h9_
    refine doesG_g (b := (!(isGrid A_g))) rfl (yld rfl rfl) (fun hg1 => ?_) (fun hc => ⟨fun hg1 => absurd hg1 hc, Ext.refl _⟩)
    refine (does_loadAgg (cs := [(Fl r11), (Fl r13), (Fl r15)]) (ev rfl) Try.isAgg31 Try.sizeOf31 (Blk.cells (hB30.ext hu)) rfl).mono ?_; rintro _ _ ⟨rfl, rfl⟩
    exact ⟨fun _ => rfl, Ext.refl _⟩
  refine RW_d (fun v43 => [(.agg #[(Fl r1), (Fl r3), (Fl r5), (Fl r7), (Iv A_g.x), (Iv A_g.y), (Iv A_g.z), (.slice p17 A_g.vals.length q18)]), (.agg #[(Fl r11), (Fl r13), (Fl r15)]), (Pt b21 0), (Pt b28 0), (Fl 0), (Bo false), v38, v39, v40, v41, v42, v43, Ud, Ud, Ud, Ud]) rfl (fun _ => rfl) (fun u hu hF => ?_) (fun v43 => ?_)
  · have h10_ : (!(isGrid A_g)) = false → v42 = (.agg #[(Fl r11), (Fl r13), (Fl r15)]) := hF.1
    have h9_ : v41 = (Bo (!(isGrid A_g))) := hF.2.1
    clear hF
    obtain rfl := h9_
    refine doesG_g (b := (!(isGrid A_g))) rfl (yld rfl rfl) (fun hg1 => ?_) (fun hc => ⟨fun hg1 => absurd hg1 hc, Ext.refl _⟩)
    obtain rfl := h10_ hg1
    refine (does_call (args := #[(.agg #[(Fl r11), (Fl r13), (Fl r15)])]) cal21 (evs rfl) (c_impl_finiteVector [(Fl r11), (Fl r13), (Fl r15)] A_p _ ⟨r11, r13, r15, rfl, h12, h14, h16⟩)).mono ?_; rintro v u' ⟨hx, hv⟩
    exact ⟨fun _ => hv, hx⟩
  refine RW_d (fun v44 => [(.agg #[(Fl r1), (Fl r3), (Fl r5), (Fl r7), (Iv A_g.x), (Iv A_g.y), (Iv A_g.z), (.slice p17 A_g.vals.length q18)]), (.agg #[(Fl r11), (Fl r13), (Fl r15)]), (Pt b21 0), (Pt b28 0), (Fl 0), (Bo false), v38, v39, v40, v41, v42, v43, v44, Ud, Ud, Ud]) rfl (fun _ => rfl) (fun u hu hF => ?_) (fun v44 => ?_)
  · have h11_ : (!(isGrid A_g)) = false → v43 = (Bo (finV A_p)) := hF.1
    have h9_ : v41 = (Bo (!(isGrid A_g))) := hF.2.1
    clear hF
    obtain rfl := h9_
    refine doesG_g (b := (!(isGrid A_g))) rfl (yld rfl rfl) (fun hg1 => ?_) (fun hc => ⟨fun hg1 => absurd hg1 hc, Ext.refl _⟩)
    obtain rfl := h11_ hg1
    refine (does_not (ev rfl)).mono ?_; rintro _ _ ⟨rfl, rfl⟩
    exact ⟨fun _ => rfl, Ext.refl _⟩
  refine RW_d (fun v45 => [(.agg #[(Fl r1), (Fl r3), (Fl r5), (Fl r7), (Iv A_g.x), (Iv A_g.y), (Iv A_g.z), (.slice p17 A_g.vals.length q18)]), (.agg #[(Fl r11), (Fl r13), (Fl r15)]), (Pt b21 0), (Pt b28 0), (Fl 0), (Bo false), v38, v39, v40, v41, v42, v43, v44, v45, Ud, Ud]) rfl (fun _ => rfl) (fun u hu hF => ?_) (fun v45 => ?_)
  · have h9_ : v41 = (Bo (!(isGrid A_g))) := hF.1
    have h12_ : (!(isGrid A_g)) = false → v44 = (Bo (!(finV A_p))) := hF.2.1
    clear hF
    refine doesG_un rfl ?_
    skip
    obtain rfl := h9_
    refine (does_pick (b := (!(isGrid A_g))) (ev rfl) (ev rfl) (ev rfl)).mono ?_; rintro _ _ ⟨rfl, rfl⟩; refine ⟨?_, Ext.refl _⟩; rw [hβ1]; skip
    cases hbb : (!(isGrid A_g)) <;> simp [hbb] at h12_ ⊢
    all_goals (first | rfl | (subst h12_; rfl) | simp_all)
  refine RW_fin ?_; intro w46 E47 hP48
  obtain ⟨⟨⟨⟨⟨⟨⟨⟨-, -⟩, -⟩, -⟩, -⟩, -⟩, -⟩, -⟩, q49⟩ := hP48
  have X50 := Ext.gr X35 E47
  have q49 : v45 = (Bo β1) := q49
  obtain rfl := q49
  show wpList _ _ _ _ (fr [(.agg #[(Fl r1), (Fl r3), (Fl r5), (Fl r7), (Iv A_g.x), (Iv A_g.y), (Iv A_g.z), (.slice p17 A_g.vals.length q18)]), (.agg #[(Fl r11), (Fl r13), (Fl r15)]), (Pt b21 0), (Pt b28 0), (Fl 0), (Bo false), v38, v39, v40, v41, v42, v43, v44, (Bo β1), Ud, Ud]) _
  refine wpList_nil (hK37 _ _ ?_)
  refine wp_cond_split (t := β1) (ev rfl) (fun c51 => ?_) (fun c51 => ?_)
  · have c51' := c51
    (try simp only [hβ1] at c51')
    (try simp only [icmp, Bool.and_eq_true, Bool.or_eq_true, Bool.and_eq_false_iff, Bool.or_eq_false_iff, Bool.not_eq_true', Bool.not_eq_false', decide_eq_true_eq, decide_eq_false_iff_not, beq_iff_eq, bne_iff_ne, beq_eq_false_iff_ne, bne_eq_false_iff_eq] at c51')
    refine wp_seq_k fun K52 hK52 => ?_
    refine wp_region_lit ?_
    refine q_is (l' := [(.agg #[(Fl r1), (Fl r3), (Fl r5), (Fl r7), (Iv A_g.x), (Iv A_g.y), (Iv A_g.z), (.slice p17 A_g.vals.length q18)]), (.agg #[(Fl r11), (Fl r13), (Fl r15)]), (Pt b21 0), (Pt b28 0), (Fl 0), (Bo false), v38, v39, v40, v41, v42, v43, v44, (Bo β1), Ud, Ud]) rfl rfl (does_assign (u := (Fl 0)) (ev rfl)) rfl ?_
    refine q_is (l' := [(.agg #[(Fl r1), (Fl r3), (Fl r5), (Fl r7), (Iv A_g.x), (Iv A_g.y), (Iv A_g.z), (.slice p17 A_g.vals.length q18)]), (.agg #[(Fl r11), (Fl r13), (Fl r15)]), (Pt b21 0), (Pt b28 0), (Fl 0), (Bo false), v38, v39, v40, v41, v42, v43, v44, (Bo β1), Ud, Ud]) rfl rfl (does_assign (u := (Bo false)) (ev rfl)) rfl ?_
    refine wpList_nil (hK52 _ _ ?_)
    refine wp_ret ?_
    dsimp only [Exit.then, Exit.inBlock]
    refine ret_val (v := (.tuple #[(Fl 0), (Bo false)])) (res_TT rfl (slot rfl) (slot rfl)) X50 ?_
    try simp only [h2, h4, h6, h8, h12, h14, h16, hβ1] at c51
    have x53 : (vbtOk A_g A_p) = false := by first | exact vbtOk_f (by assumption) | exact (vbtOk_t (by assumption)) | (rw [vbtG_f (by assumption)]; done) | (rw [vbtG_t (by assumption)]; first | done | assumption | (simp only [h2, h4, h6, h8, h12, h14, h16, hβ1, c51]; done))
    have x54 : cf .f32 0 = vbtG A_g A_p := by first | exact vbtOk_f (by assumption) | exact (vbtOk_t (by assumption)) | (rw [vbtG_f (by assumption)]; done) | (rw [vbtG_t (by assumption)]; first | done | assumption | (simp only [h2, h4, h6, h8, h12, h14, h16, hβ1, c51]; done))
    exact ⟨0, (by first | rfl | rw [x53]), x54⟩
  have c51' := c51
  (try simp only [hβ1] at c51')
  (try simp only [icmp, Bool.and_eq_true, Bool.or_eq_true, Bool.and_eq_false_iff, Bool.or_eq_false_iff, Bool.not_eq_true', Bool.not_eq_false', decide_eq_true_eq, decide_eq_false_iff_not, beq_iff_eq, bne_iff_ne, beq_eq_false_iff_ne, bne_eq_false_iff_eq] at c51')
  refine wp_skip (hK36 _ _ ?_)
  refine wp_seq_k fun K55 hK55 => ?_
  refine wp_region_lit ?_
  refine q_is (l' := [(.agg #[(Fl r1), (Fl r3), (Fl r5), (Fl r7), (Iv A_g.x), (Iv A_g.y), (Iv A_g.z), (.slice p17 A_g.vals.length q18)]), (.agg #[(Fl r11), (Fl r13), (Fl r15)]), (Pt b21 0), (Pt b28 0), (Fl 0), (Bo false), v38, v39, v40, v41, v42, v43, v44, (Bo β1), (.agg #[(Fl r11), (Fl r13), (Fl r15)]), Ud]) rfl rfl (does_loadAgg (cs := [(Fl r11), (Fl r13), (Fl r15)]) (ev rfl) Try.isAgg31 Try.sizeOf31 (Blk.cells (hB30.ext E47)) rfl) rfl ?_
  refine seqd rfl rfl (does_call (args := #[(Pt b21 0), (.agg #[(Fl r11), (Fl r13), (Fl r15)])]) cal22 (evs rfl) (c_impl_Grid_between b21 0 [(Fl r1), (Fl r3), (Fl r5), (Fl r7), (Iv A_g.x), (Iv A_g.y), (Iv A_g.z), (.slice p17 A_g.vals.length q18)] A_g [(Fl r11), (Fl r13), (Fl r15)] A_p _ (Blk.cells ((hB23.ext E31).ext E47)) ⟨r1, r3, r5, r7, (.slice p17 A_g.vals.length q18), rfl, h2, h4, h6, h8, (Sl.ext hs19 RF.mono X50)⟩ ⟨r11, r13, r15, rfl, h12, h14, h16⟩ (by first | assumption | exact (‹isGrid A_g = true ∧ finV A_p = true›).1) (by first | assumption | exact (‹isGrid A_g = true ∧ finV A_p = true›).2))) ?_; rintro _ w57 ⟨E56, ⟨r58, rfl, h59⟩⟩
  have X60 := Ext.gr X50 E56
  show wpList _ _ _ _ (fr [(.agg #[(Fl r1), (Fl r3), (Fl r5), (Fl r7), (Iv A_g.x), (Iv A_g.y), (Iv A_g.z), (.slice p17 A_g.vals.length q18)]), (.agg #[(Fl r11), (Fl r13), (Fl r15)]), (Pt b21 0), (Pt b28 0), (Fl 0), (Bo false), v38, v39, v40, v41, v42, v43, v44, (Bo β1), (.agg #[(Fl r11), (Fl r13), (Fl r15)]), (Fl r58)]) _
  refine q_is (l' := [(.agg #[(Fl r1), (Fl r3), (Fl r5), (Fl r7), (Iv A_g.x), (Iv A_g.y), (Iv A_g.z), (.slice p17 A_g.vals.length q18)]), (.agg #[(Fl r11), (Fl r13), (Fl r15)]), (Pt b21 0), (Pt b28 0), (Fl r58), (Bo false), v38, v39, v40, v41, v42, v43, v44, (Bo β1), (.agg #[(Fl r11), (Fl r13), (Fl r15)]), (Fl r58)]) rfl rfl (does_assign (u := (Fl r58)) (ev rfl)) rfl ?_
  refine q_is (l' := [(.agg #[(Fl r1), (Fl r3), (Fl r5), (Fl r7), (Iv A_g.x), (Iv A_g.y), (Iv A_g.z), (.slice p17 A_g.vals.length q18)]), (.agg #[(Fl r11), (Fl r13), (Fl r15)]), (Pt b21 0), (Pt b28 0), (Fl r58), (Bo true), v38, v39, v40, v41, v42, v43, v44, (Bo β1), (.agg #[(Fl r11), (Fl r13), (Fl r15)]), (Fl r58)]) rfl rfl (does_assign (u := (Bo true)) (ev rfl)) rfl ?_
  refine wpList_nil (hK55 _ _ ?_)
  refine wp_ret ?_
  refine ret_val (v := (.tuple #[(Fl r58), (Bo true)])) (res_TT rfl (slot rfl) (slot rfl)) X60 ?_
  try simp only [h2, h4, h6, h8, h12, h14, h16, hβ1, h59] at c51
  have x61 : (vbtOk A_g A_p) = true := by first | exact vbtOk_f (by assumption) | exact (vbtOk_t (by assumption)) | (rw [vbtG_f (by assumption)]; done) | (rw [vbtG_t (by assumption)]; first | done | assumption | (simp only [h2, h4, h6, h8, h12, h14, h16, hβ1, h59, c51]; done))
  have x62 : cf .f32 r58 = vbtG A_g A_p := by first | exact vbtOk_f (by assumption) | exact (vbtOk_t (by assumption)) | (rw [vbtG_f (by assumption)]; done) | (rw [vbtG_t (by assumption)]; first | done | assumption | (simp only [h2, h4, h6, h8, h12, h14, h16, hβ1, h59, c51]; done))
  exact ⟨r58, (by first | rfl | rw [x61]), x62⟩

/- laws.sameFloat -/
theorem c_laws_sameFloat (x : Nat) (y : Nat) (w : World) : Gives Try.prog 10 #[(Fd x), (Fd y)] w (fun v w' => v = (Bo (sameF (cf .f64 x) (cf .f64 y)))) := by
  refine enter [(Fd x), (Fd y), Ud, Ud, Ud, Ud, Ud, Ud, Ud, Ud, Ud, Ud, Ud, Ud, Ud, Ud, Ud, Ud, Ud, Ud, Ud, Ud, Ud, Ud, Ud, Ud, Ud, Ud, Ud, Ud, Ud, Ud, Ud, Ud, Ud, Ud, Ud] Try.func10 rfl Try.ntmps10 rfl ?_
  refine wp_seq_k fun K1 hK1 => ?_
  refine wp_region_lit ?_
  refine q_is rfl rfl (does_assign (u := (Bo false)) (ev rfl)) (by dsimp only [List.set]; try rfl) ?_
  refine wpList_nil (hK1 _ _ ?_)
  refine wp_seq_k fun K2 hK2 => ?_
  refine wp_seq_k fun K3 hK3 => ?_
  obtain ⟨β1, hβ1⟩ : ∃ b : Bool, b = (fcmp .neq (ford .f64 (cf .f64 x) (cf .f64 x))) := ⟨_, rfl⟩
  obtain ⟨β2, hβ2⟩ : ∃ b : Bool, b = (fcmp .neq (ford .f64 (cf .f64 y) (cf .f64 y))) := ⟨_, rfl⟩
  refine region_text (
    [Fact.pure [] (fun v => v = (Fd x)),
    Fact.pure [] (fun v => v = (Fd x)),
    Fact.pure [5, 6] (fun v => v = (Bo β1)),
    Fact.pure [7] (fun v => v = (Bo β1)),
    Fact.pure [8] (fun v => β1 = false → v = (Fd y)),
    Fact.pure [8] (fun v => β1 = false → v = (Fd y)),
    Fact.pure [9, 10, 8] (fun v => β1 = false → v = (Bo β2)),
    Fact.pure [8, 11] (fun v => v = (Bo (β1 || β2)))]) (by simp [Fact.pure, Fact.mem]) ?_
  refine RW_d _ rfl (fun v => by dsimp only [List.set]; try rfl) (fun u hu hF => ?_) (fun v4 => ?_)
  · clear hF
    refine doesG_un rfl ?_
    refine (does_move (u := (Fd x)) (ev rfl)).mono ?_; rintro _ _ ⟨rfl, rfl⟩
    exact ⟨rfl, Ext.refl _⟩
  refine RW_d _ rfl (fun v => by dsimp only [List.set]; try rfl) (fun u hu hF => ?_) (fun v5 => ?_)
  · clear hF
    refine doesG_un rfl ?_
    refine (does_move (u := (Fd x)) (ev rfl)).mono ?_; rintro _ _ ⟨rfl, rfl⟩
    exact ⟨rfl, Ext.refl _⟩
  refine RW_d _ rfl (fun v => by dsimp only [List.set]; try rfl) (fun u hu hF => ?_) (fun v6 => ?_)
  · have h5_ : v4 = (Fd x) := hF.1
    have h6_ : v5 = (Fd x) := hF.2.1
    clear hF
    refine doesG_un rfl ?_
    obtain rfl := h5_
    obtain rfl := h6_
    refine (does_fcmp (.inr (.inl rfl)) (ev rfl) (ev rfl)).mono ?_; rintro _ _ ⟨rfl, rfl⟩
    exact ⟨(by first | rfl | (show _ = _; simp only [hβ1])), Ext.refl _⟩
  refine RW_d _ rfl (fun v => by dsimp only [List.set]; try rfl) (fun u hu hF => ?_) (fun v7 => ?_)
  · have h7_ : v6 = (Bo β1) := hF.1
    clear hF
    refine doesG_un rfl ?_
    obtain rfl := h7_
    refine (does_move (u := (Bo β1)) (ev rfl)).mono ?_; rintro _ _ ⟨rfl, rfl⟩
    exact ⟨rfl, Ext.refl _⟩
  refine RW_d _ rfl (fun v => by dsimp only [List.set]; try rfl) (fun u hu hF => ?_) (fun v8 => ?_)
  · have h8_ : v7 = (Bo β1) := hF.1
    clear hF
    obtain rfl := h8_
    refine doesG_g (b := β1) rfl (yld rfl rfl) (fun hg1 => ?_) (fun hc => ⟨fun hg1 => absurd hg1 hc, Ext.refl _⟩)
    refine (does_move (u := (Fd y)) (ev rfl)).mono ?_; rintro _ _ ⟨rfl, rfl⟩
    exact ⟨fun _ => rfl, Ext.refl _⟩
  refine RW_d _ rfl (fun v => by dsimp only [List.set]; try rfl) (fun u hu hF => ?_) (fun v9 => ?_)
  · have h8_ : v7 = (Bo β1) := hF.1
    clear hF
    obtain rfl := h8_
    refine doesG_g (b := β1) rfl (yld rfl rfl) (fun hg1 => ?_) (fun hc => ⟨fun hg1 => absurd hg1 hc, Ext.refl _⟩)
    refine (does_move (u := (Fd y)) (ev rfl)).mono ?_; rintro _ _ ⟨rfl, rfl⟩
    exact ⟨fun _ => rfl, Ext.refl _⟩
  refine RW_d _ rfl (fun v => by dsimp only [List.set]; try rfl) (fun u hu hF => ?_) (fun v10 => ?_)
  · have h9_ : β1 = false → v8 = (Fd y) := hF.1
    have h10_ : β1 = false → v9 = (Fd y) := hF.2.1
    have h8_ : v7 = (Bo β1) := hF.2.2.1
    clear hF
    obtain rfl := h8_
    refine doesG_g (b := β1) rfl (yld rfl rfl) (fun hg1 => ?_) (fun hc => ⟨fun hg1 => absurd hg1 hc, Ext.refl _⟩)
    obtain rfl := h9_ hg1
    obtain rfl := h10_ hg1
    refine (does_fcmp (.inr (.inl rfl)) (ev rfl) (ev rfl)).mono ?_; rintro _ _ ⟨rfl, rfl⟩
    exact ⟨fun _ => (by first | rfl | (show _ = _; simp only [hβ2])), Ext.refl _⟩
  refine RW_d _ rfl (fun v => by dsimp only [List.set]; try rfl) (fun u hu hF => ?_) (fun v11 => ?_)
  · have h8_ : v7 = (Bo β1) := hF.1
    have h11_ : β1 = false → v10 = (Bo β2) := hF.2.1
    clear hF
    refine doesG_un rfl ?_
    skip
    obtain rfl := h8_
    refine (does_pick (b := β1) (ev rfl) (ev rfl) (ev rfl)).mono ?_; rintro _ _ ⟨rfl, rfl⟩; refine ⟨?_, Ext.refl _⟩; skip
    cases hbb : β1 <;> simp [hbb] at h11_ ⊢
    all_goals (first | rfl | (subst h11_; rfl) | simp_all)
  refine RW_fin ?_; intro w12 E13 hP14
  obtain ⟨⟨⟨⟨⟨⟨⟨⟨-, -⟩, -⟩, -⟩, -⟩, -⟩, -⟩, -⟩, q15⟩ := hP14
  have X16 := Ext.gr (Ext.refl w) E13
  have q15 : v11 = (Bo (β1 || β2)) := q15
  obtain rfl := q15
  show wpList _ _ _ _ (fr [(Fd x), (Fd y), Ud, Ud, (Bo false), v4, v5, v6, v7, v8, v9, v10, (Bo (β1 || β2)), Ud, Ud, Ud, Ud, Ud, Ud, Ud, Ud, Ud, Ud, Ud, Ud, Ud, Ud, Ud, Ud, Ud, Ud, Ud, Ud, Ud, Ud, Ud, Ud]) _
  refine wpList_nil (hK3 _ _ ?_)
  refine wp_cond_split (t := β1 || β2) (ev rfl) (fun c17 => ?_) (fun c17 => ?_)
  · have c17' := c17
    (try simp only [hβ1, hβ2] at c17')
    (try simp only [icmp, Bool.and_eq_true, Bool.or_eq_true, Bool.and_eq_false_iff, Bool.or_eq_false_iff, Bool.not_eq_true', Bool.not_eq_false', decide_eq_true_eq, decide_eq_false_iff_not, beq_iff_eq, bne_iff_ne, beq_eq_false_iff_ne, bne_eq_false_iff_eq] at c17')
    refine wp_seq_k fun K18 hK18 => ?_
    obtain ⟨β3, hβ3⟩ : ∃ b : Bool, b = (fcmp .neq (ford .f64 (cf .f64 x) (cf .f64 x))) := ⟨_, rfl⟩
    obtain ⟨β4, hβ4⟩ : ∃ b : Bool, b = (fcmp .neq (ford .f64 (cf .f64 y) (cf .f64 y))) := ⟨_, rfl⟩
    refine region_text (
      [Fact.pure [] (fun v => v = (Fd x)),
    Fact.pure [] (fun v => v = (Fd x)),
    Fact.pure [13, 14] (fun v => v = (Bo β3)),
    Fact.pure [15] (fun v => v = (Bo β3)),
    Fact.pure [16] (fun v => β3 = true → v = (Fd y)),
    Fact.pure [16] (fun v => β3 = true → v = (Fd y)),
    Fact.pure [17, 18, 16] (fun v => β3 = true → v = (Bo β4)),
    Fact.pure [16, 19] (fun v => v = (Bo (β3 && β4)))]) (by simp [Fact.pure, Fact.mem]) ?_
    refine RW_d _ rfl (fun v => by dsimp only [List.set]; try rfl) (fun u hu hF => ?_) (fun v19 => ?_)
    · clear hF
      refine doesG_un rfl ?_
      refine (does_move (u := (Fd x)) (ev rfl)).mono ?_; rintro _ _ ⟨rfl, rfl⟩
      exact ⟨rfl, Ext.refl _⟩
    refine RW_d _ rfl (fun v => by dsimp only [List.set]; try rfl) (fun u hu hF => ?_) (fun v20 => ?_)
    · clear hF
      refine doesG_un rfl ?_
      refine (does_move (u := (Fd x)) (ev rfl)).mono ?_; rintro _ _ ⟨rfl, rfl⟩
      exact ⟨rfl, Ext.refl _⟩
    refine RW_d _ rfl (fun v => by dsimp only [List.set]; try rfl) (fun u hu hF => ?_) (fun v21 => ?_)
    · have h13_ : v19 = (Fd x) := hF.1
      have h14_ : v20 = (Fd x) := hF.2.1
      clear hF
      refine doesG_un rfl ?_
      obtain rfl := h13_
      obtain rfl := h14_
      refine (does_fcmp (.inr (.inl rfl)) (ev rfl) (ev rfl)).mono ?_; rintro _ _ ⟨rfl, rfl⟩
      exact ⟨(by first | rfl | (show _ = _; simp only [hβ3])), Ext.refl _⟩
    refine RW_d _ rfl (fun v => by dsimp only [List.set]; try rfl) (fun u hu hF => ?_) (fun v22 => ?_)
    · have h15_ : v21 = (Bo β3) := hF.1
      clear hF
      refine doesG_un rfl ?_
      obtain rfl := h15_
      refine (does_move (u := (Bo β3)) (ev rfl)).mono ?_; rintro _ _ ⟨rfl, rfl⟩
      exact ⟨rfl, Ext.refl _⟩
    refine RW_d _ rfl (fun v => by dsimp only [List.set]; try rfl) (fun u hu hF => ?_) (fun v23 => ?_)
    · have h16_ : v22 = (Bo β3) := hF.1
      clear hF
      obtain rfl := h16_
      refine doesG_g (b := β3) rfl (yld rfl rfl) (fun hg1 => ?_) (fun hc => ⟨fun hg1 => absurd hg1 hc, Ext.refl _⟩)
      refine (does_move (u := (Fd y)) (ev rfl)).mono ?_; rintro _ _ ⟨rfl, rfl⟩
      exact ⟨fun _ => rfl, Ext.refl _⟩
    refine RW_d _ rfl (fun v => by dsimp only [List.set]; try rfl) (fun u hu hF => ?_) (fun v24 => ?_)
    · have h16_ : v22 = (Bo β3) := hF.1
      clear hF
      obtain rfl := h16_
      refine doesG_g (b := β3) rfl (yld rfl rfl) (fun hg1 => ?_) (fun hc => ⟨fun hg1 => absurd hg1 hc, Ext.refl _⟩)
      refine (does_move (u := (Fd y)) (ev rfl)).mono ?_; rintro _ _ ⟨rfl, rfl⟩
      exact ⟨fun _ => rfl, Ext.refl _⟩
    refine RW_d _ rfl (fun v => by dsimp only [List.set]; try rfl) (fun u hu hF => ?_) (fun v25 => ?_)
    · have h17_ : β3 = true → v23 = (Fd y) := hF.1
      have h18_ : β3 = true → v24 = (Fd y) := hF.2.1
      have h16_ : v22 = (Bo β3) := hF.2.2.1
      clear hF
      obtain rfl := h16_
      refine doesG_g (b := β3) rfl (yld rfl rfl) (fun hg1 => ?_) (fun hc => ⟨fun hg1 => absurd hg1 hc, Ext.refl _⟩)
      obtain rfl := h17_ hg1
      obtain rfl := h18_ hg1
      refine (does_fcmp (.inr (.inl rfl)) (ev rfl) (ev rfl)).mono ?_; rintro _ _ ⟨rfl, rfl⟩
      exact ⟨fun _ => (by first | rfl | (show _ = _; simp only [hβ4])), Ext.refl _⟩
    refine RW_d _ rfl (fun v => by dsimp only [List.set]; try rfl) (fun u hu hF => ?_) (fun v26 => ?_)
    · have h16_ : v22 = (Bo β3) := hF.1
      have h19_ : β3 = true → v25 = (Bo β4) := hF.2.1
      clear hF
      refine doesG_un rfl ?_
      skip
      obtain rfl := h16_
      refine (does_pick (b := β3) (ev rfl) (ev rfl) (ev rfl)).mono ?_; rintro _ _ ⟨rfl, rfl⟩; refine ⟨?_, Ext.refl _⟩; skip
      cases hbb : β3 <;> simp [hbb] at h19_ ⊢
      all_goals (first | rfl | (subst h19_; rfl) | simp_all)
    refine RW_fin ?_; intro w27 E28 hP29
    obtain ⟨⟨⟨⟨⟨⟨⟨⟨-, -⟩, -⟩, -⟩, -⟩, -⟩, -⟩, -⟩, q30⟩ := hP29
    have X31 := Ext.gr X16 E28
    have q30 : v26 = (Bo (β3 && β4)) := q30
    obtain rfl := q30
    show wpList _ _ _ _ (fr [(Fd x), (Fd y), Ud, Ud, (Bo false), v4, v5, v6, v7, v8, v9, v10, (Bo (β1 || β2)), v19, v20, v21, v22, v23, v24, v25, (Bo (β3 && β4)), Ud, Ud, Ud, Ud, Ud, Ud, Ud, Ud, Ud, Ud, Ud, Ud, Ud, Ud, Ud, Ud]) _
    refine q_is rfl rfl (does_assign (u := (Bo (β3 && β4))) (ev rfl)) (by dsimp only [List.set]; try rfl) ?_
    refine wpList_nil (hK18 _ _ ?_)
    refine wp_ret ?_
    dsimp only [Exit.then, Exit.inBlock]
    refine ret_val (v := (Bo (β3 && β4))) (res_T rfl (slot rfl)) X31 ?_
    try simp only [hβ1, hβ2, hβ3, hβ4] at c17
    have x32 : (sameF (cf .f64 x) (cf .f64 y)) = (β3 && β4) := by first | with_reducible rfl | (simp only [sameF, hβ1, hβ2, hβ3, hβ4, c17]; done) | (simp [sameF, hβ1, hβ2, hβ3, hβ4, c17]; done) | (revert c17; simp +contextual [sameF, hβ1, hβ2, hβ3, hβ4]; done) | (rcases c17' with hh | hh <;> simp only [hh, sameF, hβ1, hβ2, hβ3, hβ4, c17]; done) | (rcases c17' with hh | hh <;> simp_all [sameF]; done) | (rcases c17' with hh | hh | hh <;> simp_all [sameF]; done) | (rcases c17' with hh | hh | hh | hh <;> simp_all [sameF]; done) | (simp_all [sameF]; done) | rfl
    exact (by first | rfl | rw [x32])
  have c17' := c17
  (try simp only [hβ1, hβ2] at c17')
  (try simp only [icmp, Bool.and_eq_true, Bool.or_eq_true, Bool.and_eq_false_iff, Bool.or_eq_false_iff, Bool.not_eq_true', Bool.not_eq_false', decide_eq_true_eq, decide_eq_false_iff_not, beq_iff_eq, bne_iff_ne, beq_eq_false_iff_ne, bne_eq_false_iff_eq] at c17')
  refine wp_skip (hK2 _ _ ?_)
  refine wp_seq_k fun K33 hK33 => ?_
  refine wp_seq_k fun K34 hK34 => ?_
  obtain ⟨β5, hβ5⟩ : ∃ b : Bool, b = (fcmp .eql (ford .f64 (cf .f64 x) (cf .f64 0))) := ⟨_, rfl⟩
  obtain ⟨β6, hβ6⟩ : ∃ b : Bool, b = (fcmp .eql (ford .f64 (cf .f64 y) (cf .f64 0))) := ⟨_, rfl⟩
  refine region_text (
    [Fact.pure [] (fun v => v = (Fd x)),
    Fact.pure [21] (fun v => v = (Bo β5)),
    Fact.pure [22] (fun v => v = (Bo β5)),
    Fact.pure [23] (fun v => β5 = true → v = (Fd y)),
    Fact.pure [24, 23] (fun v => β5 = true → v = (Bo β6)),
    Fact.pure [23, 25] (fun v => v = (Bo (β5 && β6)))]) (by simp [Fact.pure, Fact.mem]) ?_
  refine RW_d _ rfl (fun v => by dsimp only [List.set]; try rfl) (fun u hu hF => ?_) (fun v35 => ?_)
  · clear hF
    refine doesG_un rfl ?_
    refine (does_move (u := (Fd x)) (ev rfl)).mono ?_; rintro _ _ ⟨rfl, rfl⟩
    exact ⟨rfl, Ext.refl _⟩
  refine RW_d _ rfl (fun v => by dsimp only [List.set]; try rfl) (fun u hu hF => ?_) (fun v36 => ?_)
  · have h21_ : v35 = (Fd x) := hF.1
    clear hF
    refine doesG_un rfl ?_
    obtain rfl := h21_
    refine (does_fcmp (.inl rfl) (ev rfl) (ev rfl)).mono ?_; rintro _ _ ⟨rfl, rfl⟩
    exact ⟨(by first | rfl | (show _ = _; simp only [hβ5])), Ext.refl _⟩
  refine RW_d _ rfl (fun v => by dsimp only [List.set]; try rfl) (fun u hu hF => ?_) (fun v37 => ?_)
  · have h22_ : v36 = (Bo β5) := hF.1
    clear hF
    refine doesG_un rfl ?_
    obtain rfl := h22_
    refine (does_move (u := (Bo β5)) (ev rfl)).mono ?_; rintro _ _ ⟨rfl, rfl⟩
    exact ⟨rfl, Ext.refl _⟩
  refine RW_d _ rfl (fun v => by dsimp only [List.set]; try rfl) (fun u hu hF => ?_) (fun v38 => ?_)
  · have h23_ : v37 = (Bo β5) := hF.1
    clear hF
    obtain rfl := h23_
    refine doesG_g (b := β5) rfl (yld rfl rfl) (fun hg1 => ?_) (fun hc => ⟨fun hg1 => absurd hg1 hc, Ext.refl _⟩)
    refine (does_move (u := (Fd y)) (ev rfl)).mono ?_; rintro _ _ ⟨rfl, rfl⟩
    exact ⟨fun _ => rfl, Ext.refl _⟩
  refine RW_d _ rfl (fun v => by dsimp only [List.set]; try rfl) (fun u hu hF => ?_) (fun v39 => ?_)
  · have h24_ : β5 = true → v38 = (Fd y) := hF.1
    have h23_ : v37 = (Bo β5) := hF.2.1
    clear hF
    obtain rfl := h23_
    refine doesG_g (b := β5) rfl (yld rfl rfl) (fun hg1 => ?_) (fun hc => ⟨fun hg1 => absurd hg1 hc, Ext.refl _⟩)
    obtain rfl := h24_ hg1
    refine (does_fcmp (.inl rfl) (ev rfl) (ev rfl)).mono ?_; rintro _ _ ⟨rfl, rfl⟩
    exact ⟨fun _ => (by first | rfl | (show _ = _; simp only [hβ6])), Ext.refl _⟩
  refine RW_d _ rfl (fun v => by dsimp only [List.set]; try rfl) (fun u hu hF => ?_) (fun v40 => ?_)
  · have h23_ : v37 = (Bo β5) := hF.1
    have h25_ : β5 = true → v39 = (Bo β6) := hF.2.1
    clear hF
    refine doesG_un rfl ?_
    skip
    obtain rfl := h23_
    refine (does_pick (b := β5) (ev rfl) (ev rfl) (ev rfl)).mono ?_; rintro _ _ ⟨rfl, rfl⟩; refine ⟨?_, Ext.refl _⟩; skip
    cases hbb : β5 <;> simp [hbb] at h25_ ⊢
    all_goals (first | rfl | (subst h25_; rfl) | simp_all)
  refine RW_fin ?_; intro w41 E42 hP43
  obtain ⟨⟨⟨⟨⟨⟨-, -⟩, -⟩, -⟩, -⟩, -⟩, q44⟩ := hP43
  have X45 := Ext.gr X16 E42
  have q44 : v40 = (Bo (β5 && β6)) := q44
  obtain rfl := q44
  show wpList _ _ _ _ (fr [(Fd x), (Fd y), Ud, Ud, (Bo false), v4, v5, v6, v7, v8, v9, v10, (Bo (β1 || β2)), Ud, Ud, Ud, Ud, Ud, Ud, Ud, Ud, v35, v36, v37, v38, v39, (Bo (β5 && β6)), Ud, Ud, Ud, Ud, Ud, Ud, Ud, Ud, Ud, Ud]) _
  refine wpList_nil (hK34 _ _ ?_)
  refine wp_cond_split (t := β5 && β6) (ev rfl) (fun c46 => ?_) (fun c46 => ?_)
  · have c46' := c46
    (try simp only [hβ1, hβ2, hβ5, hβ6] at c46')
    (try simp only [icmp, Bool.and_eq_true, Bool.or_eq_true, Bool.and_eq_false_iff, Bool.or_eq_false_iff, Bool.not_eq_true', Bool.not_eq_false', decide_eq_true_eq, decide_eq_false_iff_not, beq_iff_eq, bne_iff_ne, beq_eq_false_iff_ne, bne_eq_false_iff_eq] at c46')
    refine wp_seq_k fun K47 hK47 => ?_
    refine wp_region_lit ?_
    refine q_is rfl rfl (does_move (u := (Fd x)) (ev rfl)) (by dsimp only [List.set]; try rfl) ?_
    refine seqd rfl rfl (does_float (.inr (.inr (.inr rfl))) (ev rfl) (ev rfl)) ?_; rintro _ w51 ⟨r48, rfl, h49, E50⟩
    have X52 := Ext.gr X45 E50
    show wpList _ _ _ _ (fr [(Fd x), (Fd y), Ud, Ud, (Bo false), v4, v5, v6, v7, v8, v9, v10, (Bo (β1 || β2)), Ud, Ud, Ud, Ud, Ud, Ud, Ud, Ud, v35, v36, v37, v38, v39, (Bo (β5 && β6)), (Fd x), (Fd r48), Ud, Ud, Ud, Ud, Ud, Ud, Ud, Ud]) _
    refine q_is rfl rfl (does_fcmp (.inr (.inr (.inr (.inr (.inl rfl))))) (ev rfl) (ev rfl)) (by dsimp only [List.set]; try rfl) ?_
    refine q_is rfl rfl (does_move (u := (Fd y)) (ev rfl)) (by dsimp only [List.set]; try rfl) ?_
    refine seqd rfl rfl (does_float (.inr (.inr (.inr rfl))) (ev rfl) (ev rfl)) ?_; rintro _ w56 ⟨r53, rfl, h54, E55⟩
    have X57 := Ext.gr X52 E55
    show wpList _ _ _ _ (fr [(Fd x), (Fd y), Ud, Ud, (Bo false), v4, v5, v6, v7, v8, v9, v10, (Bo (β1 || β2)), Ud, Ud, Ud, Ud, Ud, Ud, Ud, Ud, v35, v36, v37, v38, v39, (Bo (β5 && β6)), (Fd x), (Fd r48), (Bo (fcmp .gtr (ford .f64 (cf .f64 r48) (cf .f64 0)))), (Fd y), (Fd r53), Ud, Ud, Ud, Ud, Ud]) _
    refine q_is rfl rfl (does_fcmp (.inr (.inr (.inr (.inr (.inl rfl))))) (ev rfl) (ev rfl)) (by dsimp only [List.set]; try rfl) ?_
    refine q_is rfl rfl (does_beq (p := (fcmp .gtr (ford .f64 (cf .f64 r48) (cf .f64 0)))) (q := (fcmp .gtr (ford .f64 (cf .f64 r53) (cf .f64 0)))) Try.underlying4 (ev rfl) (ev rfl)) (by dsimp only [List.set]; try rfl) ?_
    refine q_is rfl rfl (does_assign (u := (Bo ((fcmp .gtr (ford .f64 (cf .f64 r48) (cf .f64 0))) == (fcmp .gtr (ford .f64 (cf .f64 r53) (cf .f64 0)))))) (ev rfl)) (by dsimp only [List.set]; try rfl) ?_
    refine wpList_nil (hK47 _ _ ?_)
    refine wp_ret ?_
    dsimp only [Exit.then, Exit.inBlock]
    refine ret_val (v := (Bo ((fcmp .gtr (ford .f64 (cf .f64 r48) (cf .f64 0))) == (fcmp .gtr (ford .f64 (cf .f64 r53) (cf .f64 0)))))) (res_T rfl (slot rfl)) X57 ?_
    try simp only [hβ1, hβ2, hβ5, hβ6, h49, h54] at c17 c46
    have x58 : (sameF (cf .f64 x) (cf .f64 y)) = ((fcmp .gtr (ford .f64 (cf .f64 r48) (cf .f64 0))) == (fcmp .gtr (ford .f64 (cf .f64 r53) (cf .f64 0)))) := by first | with_reducible rfl | (simp only [sameF, hβ1, hβ2, hβ5, hβ6, h49, h54, c17, c46]; done) | (simp [sameF, hβ1, hβ2, hβ5, hβ6, h49, h54, c17, c46]; done) | (revert c17 c46; simp +contextual [sameF, hβ1, hβ2, hβ5, hβ6, h49, h54]; done) | (rcases c17' with hh | hh <;> simp only [hh, sameF, hβ1, hβ2, hβ5, hβ6, h49, h54, c17, c46]; done) | (rcases c46' with hh | hh <;> simp only [hh, sameF, hβ1, hβ2, hβ5, hβ6, h49, h54, c17, c46]; done) | (rcases c46' with hh | hh <;> simp_all [sameF]; done) | (rcases c46' with hh | hh | hh <;> simp_all [sameF]; done) | (rcases c46' with hh | hh | hh | hh <;> simp_all [sameF]; done) | (simp_all [sameF]; done) | rfl
    exact (by first | rfl | rw [x58])
  have c46' := c46
  (try simp only [hβ1, hβ2, hβ5, hβ6] at c46')
  (try simp only [icmp, Bool.and_eq_true, Bool.or_eq_true, Bool.and_eq_false_iff, Bool.or_eq_false_iff, Bool.not_eq_true', Bool.not_eq_false', decide_eq_true_eq, decide_eq_false_iff_not, beq_iff_eq, bne_iff_ne, beq_eq_false_iff_ne, bne_eq_false_iff_eq] at c46')
  refine wp_skip (hK33 _ _ ?_)
  refine wp_seq_k fun K59 hK59 => ?_
  refine wp_region_lit ?_
  refine q_is rfl rfl (does_move (u := (Fd x)) (ev rfl)) (by dsimp only [List.set]; try rfl) ?_
  refine q_is rfl rfl (does_move (u := (Fd y)) (ev rfl)) (by dsimp only [List.set]; try rfl) ?_
  refine q_is rfl rfl (does_fcmp (.inl rfl) (ev rfl) (ev rfl)) (by dsimp only [List.set]; try rfl) ?_
  refine q_is rfl rfl (does_assign (u := (Bo (fcmp .eql (ford .f64 (cf .f64 x) (cf .f64 y))))) (ev rfl)) (by dsimp only [List.set]; try rfl) ?_
  refine wpList_nil (hK59 _ _ ?_)
  refine wp_ret ?_
  refine ret_val (v := (Bo (fcmp .eql (ford .f64 (cf .f64 x) (cf .f64 y))))) (res_T rfl (slot rfl)) X45 ?_
  try simp only [hβ1, hβ2, hβ5, hβ6] at c17 c46
  have x60 : (sameF (cf .f64 x) (cf .f64 y)) = (fcmp .eql (ford .f64 (cf .f64 x) (cf .f64 y))) := by first | with_reducible rfl | (simp only [sameF, hβ1, hβ2, hβ5, hβ6, c17, c46]; done) | (simp [sameF, hβ1, hβ2, hβ5, hβ6, c17, c46]; done) | (revert c17 c46; simp +contextual [sameF, hβ1, hβ2, hβ5, hβ6]; done) | (rcases c17' with hh | hh <;> simp only [hh, sameF, hβ1, hβ2, hβ5, hβ6, c17, c46]; done) | (rcases c46' with hh | hh <;> simp only [hh, sameF, hβ1, hβ2, hβ5, hβ6, c17, c46]; done) | (rcases c46' with hh | hh <;> simp_all [sameF]; done) | (rcases c46' with hh | hh | hh <;> simp_all [sameF]; done) | (rcases c46' with hh | hh | hh | hh <;> simp_all [sameF]; done) | (simp_all [sameF]; done) | rfl
  exact (by first | rfl | rw [x60])

/- laws.eqVector -/
theorem c_laws_eqVector (a : List Value) (A_a : V3) (b : List Value) (A_b : V3) (w : World) (hv_a : RV3 w A_a a) (hv_b : RV3 w A_b b) : Gives Try.prog 14 #[(.agg a.toArray), (.agg b.toArray)] w (fun v w' => v = (Bo (sameV A_a A_b))) := by
  obtain ⟨r1, r3, r5, rfl, h2, h4, h6⟩ := hv_a
  obtain ⟨r7, r9, r11, rfl, h8, h10, h12⟩ := hv_b
  refine enter [(.agg #[(Fl r1), (Fl r3), (Fl r5)]), (.agg #[(Fl r7), (Fl r9), (Fl r11)]), Ud, Ud, Ud, Ud, Ud, Ud, Ud, Ud, Ud, Ud, Ud, Ud, Ud, Ud, Ud, Ud, Ud, Ud, Ud, Ud, Ud, Ud, Ud, Ud, Ud, Ud, Ud] Try.func14 rfl Try.ntmps14 rfl ?_
  refine wp_seq_k fun K13 hK13 => ?_
  refine wp_region_lit ?_
  refine seqd rfl rfl (does_box (u := (.agg #[(Fl r1), (Fl r3), (Fl r5)])) (ev rfl)) ?_; rintro _ w18 ⟨b14, rfl, hb15, hB16, E17⟩
  have g19 : w.heap.size ≤ b14 := Nat.le_trans (Below.size (Ext.refl w)) hb15
  change Blk _ _ [(Fl r1), (Fl r3), (Fl r5)] at hB16
  have X20 := Ext.gr (Ext.refl w) E17
  show wpList _ _ _ _ (fr [(.agg #[(Fl r1), (Fl r3), (Fl r5)]), (.agg #[(Fl r7), (Fl r9), (Fl r11)]), (Pt b14 0), Ud, Ud, Ud, Ud, Ud, Ud, Ud, Ud, Ud, Ud, Ud, Ud, Ud, Ud, Ud, Ud, Ud, Ud, Ud, Ud, Ud, Ud, Ud, Ud, Ud, Ud]) _
  refine seqd rfl rfl (does_box (u := (.agg #[(Fl r7), (Fl r9), (Fl r11)])) (ev rfl)) ?_; rintro _ w25 ⟨b21, rfl, hb22, hB23, E24⟩
  have n26 : b14 < b21 := Nat.lt_of_lt_of_le (Blk.lt hB16) hb22
  have g27 : w.heap.size ≤ b21 := Nat.le_trans (Below.size X20) hb22
  change Blk _ _ [(Fl r7), (Fl r9), (Fl r11)] at hB23
  have X28 := Ext.gr X20 E24
  show wpList _ _ _ _ (fr [(.agg #[(Fl r1), (Fl r3), (Fl r5)]), (.agg #[(Fl r7), (Fl r9), (Fl r11)]), (Pt b14 0), (Pt b21 0), Ud, Ud, Ud, Ud, Ud, Ud, Ud, Ud, Ud, Ud, Ud, Ud, Ud, Ud, Ud, Ud, Ud, Ud, Ud, Ud, Ud, Ud, Ud, Ud, Ud]) _
  refine q_is rfl rfl (does_assign (u := (Bo false)) (ev rfl)) (by dsimp only [List.set]; try rfl) ?_
  refine wpList_nil (hK13 _ _ ?_)
  refine wp_seq_k fun K29 hK29 => ?_
  refine wp_seq_k fun K30 hK30 => ?_
  refine wp_region_lit ?_
  refine q_is rfl rfl (does_fieldAddr (ev rfl) fa31_0) (by dsimp only [List.set]; try rfl) ?_
  refine q_is rfl rfl (does_load (u := (Fl r1)) (ev rfl) Try.isAgg22 (Cells.at (Blk.cells (hB16.ext E24)) 0 rfl)) (by dsimp only [List.set]; try rfl) ?_
  refine seqd rfl rfl (does_widen Try.underlying22 Try.underlying37 (ev rfl)) ?_; rintro _ w34 ⟨r31, rfl, h32, E33⟩
  have X35 := Ext.gr X28 E33
  show wpList _ _ _ _ (fr [(.agg #[(Fl r1), (Fl r3), (Fl r5)]), (.agg #[(Fl r7), (Fl r9), (Fl r11)]), (Pt b14 0), (Pt b21 0), (Bo false), (Pt b14 0), (Fl r1), (Fd r31), Ud, Ud, Ud, Ud, Ud, Ud, Ud, Ud, Ud, Ud, Ud, Ud, Ud, Ud, Ud, Ud, Ud, Ud, Ud, Ud, Ud]) _
  refine q_is rfl rfl (does_fieldAddr (ev rfl) fa31_0) (by dsimp only [List.set]; try rfl) ?_
  refine q_is rfl rfl (does_load (u := (Fl r7)) (ev rfl) Try.isAgg22 (Cells.at (Blk.cells (hB23.ext E33)) 0 rfl)) (by dsimp only [List.set]; try rfl) ?_
  refine seqd rfl rfl (does_widen Try.underlying22 Try.underlying37 (ev rfl)) ?_; rintro _ w39 ⟨r36, rfl, h37, E38⟩
  have X40 := Ext.gr X35 E38
  show wpList _ _ _ _ (fr [(.agg #[(Fl r1), (Fl r3), (Fl r5)]), (.agg #[(Fl r7), (Fl r9), (Fl r11)]), (Pt b14 0), (Pt b21 0), (Bo false), (Pt b14 0), (Fl r1), (Fd r31), (Pt b21 0), (Fl r7), (Fd r36), Ud, Ud, Ud, Ud, Ud, Ud, Ud, Ud, Ud, Ud, Ud, Ud, Ud, Ud, Ud, Ud, Ud, Ud]) _
  refine seqd rfl rfl (does_call (args := #[(Fd r31), (Fd r36)]) cal10 (evs rfl) (c_laws_sameFloat r31 r36 _)) ?_; rintro _ w42 ⟨E41, rfl⟩
  have X43 := Ext.gr X40 E41
  show wpList _ _ _ _ (fr [(.agg #[(Fl r1), (Fl r3), (Fl r5)]), (.agg #[(Fl r7), (Fl r9), (Fl r11)]), (Pt b14 0), (Pt b21 0), (Bo false), (Pt b14 0), (Fl r1), (Fd r31), (Pt b21 0), (Fl r7), (Fd r36), (Bo (sameF (cf .f64 r31) (cf .f64 r36))), Ud, Ud, Ud, Ud, Ud, Ud, Ud, Ud, Ud, Ud, Ud, Ud, Ud, Ud, Ud, Ud, Ud]) _
  refine q_is rfl rfl (does_not (ev rfl)) (by dsimp only [List.set]; try rfl) ?_
  refine wpList_nil (hK30 _ _ ?_)
  refine wp_cond_split (t := !(sameF (cf .f64 r31) (cf .f64 r36))) (ev rfl) (fun c44 => ?_) (fun c44 => ?_)
  · rw [Bool.not_eq_true'] at c44
    have c44' := c44
    refine wp_seq_k fun K45 hK45 => ?_
    refine wp_region_lit ?_
    refine q_is rfl rfl (does_assign (u := (Bo false)) (ev rfl)) (by dsimp only [List.set]; try rfl) ?_
    refine wpList_nil (hK45 _ _ ?_)
    refine wp_ret ?_
    dsimp only [Exit.then, Exit.inBlock]
    refine ret_val (v := (Bo false)) (res_T rfl (slot rfl)) X43 ?_
    try simp only [h2, h4, h6, h8, h10, h12, h32, h37] at c44
    have x46 : (sameV A_a A_b) = false := by first | with_reducible rfl | (simp only [sameV, h2, h4, h6, h8, h10, h12, h32, h37, c44]; done) | (simp [sameV, h2, h4, h6, h8, h10, h12, h32, h37, c44]; done) | (revert c44; simp +contextual [sameV, h2, h4, h6, h8, h10, h12, h32, h37]; done) | (rcases c44' with hh | hh <;> simp only [hh, sameV, h2, h4, h6, h8, h10, h12, h32, h37, c44]; done) | (rcases c44' with hh | hh <;> simp_all [sameV]; done) | (rcases c44' with hh | hh | hh <;> simp_all [sameV]; done) | (rcases c44' with hh | hh | hh | hh <;> simp_all [sameV]; done) | (simp_all [sameV]; done) | rfl
    exact (by first | rfl | rw [x46])
  rw [Bool.not_eq_false'] at c44
  have c44' := c44
  refine wp_skip (hK29 _ _ ?_)
  refine wp_seq_k fun K47 hK47 => ?_
  refine wp_seq_k fun K48 hK48 => ?_
  refine wp_region_lit ?_
  refine q_is rfl rfl (does_fieldAddr (ev rfl) fa31_1) (by dsimp only [List.set]; try rfl) ?_
  refine q_is rfl rfl (does_load (u := (Fl r3)) (ev rfl) Try.isAgg22 (Cells.at (Blk.cells ((((hB16.ext E24).ext E33).ext E38).ext E41)) 1 rfl)) (by dsimp only [List.set]; try rfl) ?_
  refine seqd rfl rfl (does_widen Try.underlying22 Try.underlying37 (ev rfl)) ?_; rintro _ w52 ⟨r49, rfl, h50, E51⟩
  have X53 := Ext.gr X43 E51
  show wpList _ _ _ _ (fr [(.agg #[(Fl r1), (Fl r3), (Fl r5)]), (.agg #[(Fl r7), (Fl r9), (Fl r11)]), (Pt b14 0), (Pt b21 0), (Bo false), (Pt b14 0), (Fl r1), (Fd r31), (Pt b21 0), (Fl r7), (Fd r36), (Bo (sameF (cf .f64 r31) (cf .f64 r36))), (Bo (!(sameF (cf .f64 r31) (cf .f64 r36)))), (Pt b14 1), (Fl r3), (Fd r49), Ud, Ud, Ud, Ud, Ud, Ud, Ud, Ud, Ud, Ud, Ud, Ud, Ud]) _
  refine q_is rfl rfl (does_fieldAddr (ev rfl) fa31_1) (by dsimp only [List.set]; try rfl) ?_
  refine q_is rfl rfl (does_load (u := (Fl r9)) (ev rfl) Try.isAgg22 (Cells.at (Blk.cells ((((hB23.ext E33).ext E38).ext E41).ext E51)) 1 rfl)) (by dsimp only [List.set]; try rfl) ?_
  refine seqd rfl rfl (does_widen Try.underlying22 Try.underlying37 (ev rfl)) ?_; rintro _ w57 ⟨r54, rfl, h55, E56⟩
  have X58 := Ext.gr X53 E56
  show wpList _ _ _ _ (fr [(.agg #[(Fl r1), (Fl r3), (Fl r5)]), (.agg #[(Fl r7), (Fl r9), (Fl r11)]), (Pt b14 0), (Pt b21 0), (Bo false), (Pt b14 0), (Fl r1), (Fd r31), (Pt b21 0), (Fl r7), (Fd r36), (Bo (sameF (cf .f64 r31) (cf .f64 r36))), (Bo (!(sameF (cf .f64 r31) (cf .f64 r36)))), (Pt b14 1), (Fl r3), (Fd r49), (Pt b21 1), (Fl r9), (Fd r54), Ud, Ud, Ud, Ud, Ud, Ud, Ud, Ud, Ud, Ud]) _
  refine seqd rfl rfl (does_call (args := #[(Fd r49), (Fd r54)]) cal10 (evs rfl) (c_laws_sameFloat r49 r54 _)) ?_; rintro _ w60 ⟨E59, rfl⟩
  have X61 := Ext.gr X58 E59
  show wpList _ _ _ _ (fr [(.agg #[(Fl r1), (Fl r3), (Fl r5)]), (.agg #[(Fl r7), (Fl r9), (Fl r11)]), (Pt b14 0), (Pt b21 0), (Bo false), (Pt b14 0), (Fl r1), (Fd r31), (Pt b21 0), (Fl r7), (Fd r36), (Bo (sameF (cf .f64 r31) (cf .f64 r36))), (Bo (!(sameF (cf .f64 r31) (cf .f64 r36)))), (Pt b14 1), (Fl r3), (Fd r49), (Pt b21 1), (Fl r9), (Fd r54), (Bo (sameF (cf .f64 r49) (cf .f64 r54))), Ud, Ud, Ud, Ud, Ud, Ud, Ud, Ud, Ud]) _
  refine q_is rfl rfl (does_not (ev rfl)) (by dsimp only [List.set]; try rfl) ?_
  refine wpList_nil (hK48 _ _ ?_)
  refine wp_cond_split (t := !(sameF (cf .f64 r49) (cf .f64 r54))) (ev rfl) (fun c62 => ?_) (fun c62 => ?_)
  · rw [Bool.not_eq_true'] at c62
    have c62' := c62
    refine wp_seq_k fun K63 hK63 => ?_
    refine wp_region_lit ?_
    refine q_is rfl rfl (does_assign (u := (Bo false)) (ev rfl)) (by dsimp only [List.set]; try rfl) ?_
    refine wpList_nil (hK63 _ _ ?_)
    refine wp_ret ?_
    dsimp only [Exit.then, Exit.inBlock]
    refine ret_val (v := (Bo false)) (res_T rfl (slot rfl)) X61 ?_
    try simp only [h2, h4, h6, h8, h10, h12, h32, h37, h50, h55] at c44 c62
    have x64 : (sameV A_a A_b) = false := by first | with_reducible rfl | (simp only [sameV, h2, h4, h6, h8, h10, h12, h32, h37, h50, h55, c44, c62]; done) | (simp [sameV, h2, h4, h6, h8, h10, h12, h32, h37, h50, h55, c44, c62]; done) | (revert c44 c62; simp +contextual [sameV, h2, h4, h6, h8, h10, h12, h32, h37, h50, h55]; done) | (rcases c44' with hh | hh <;> simp only [hh, sameV, h2, h4, h6, h8, h10, h12, h32, h37, h50, h55, c44, c62]; done) | (rcases c62' with hh | hh <;> simp only [hh, sameV, h2, h4, h6, h8, h10, h12, h32, h37, h50, h55, c44, c62]; done) | (rcases c62' with hh | hh <;> simp_all [sameV]; done) | (rcases c62' with hh | hh | hh <;> simp_all [sameV]; done) | (rcases c62' with hh | hh | hh | hh <;> simp_all [sameV]; done) | (simp_all [sameV]; done) | rfl
    exact (by first | rfl | rw [x64])
  rw [Bool.not_eq_false'] at c62
  have c62' := c62
  refine wp_skip (hK47 _ _ ?_)
  refine wp_seq_k fun K65 hK65 => ?_
  refine wp_seq_k fun K66 hK66 => ?_
  refine wp_region_lit ?_
  refine q_is rfl rfl (does_fieldAddr (ev rfl) fa31_2) (by dsimp only [List.set]; try rfl) ?_
  refine q_is rfl rfl (does_load (u := (Fl r5)) (ev rfl) Try.isAgg22 (Cells.at (Blk.cells (((((((hB16.ext E24).ext E33).ext E38).ext E41).ext E51).ext E56).ext E59)) 2 rfl)) (by dsimp only [List.set]; try rfl) ?_
  refine seqd rfl rfl (does_widen Try.underlying22 Try.underlying37 (ev rfl)) ?_; rintro _ w70 ⟨r67, rfl, h68, E69⟩
  have X71 := Ext.gr X61 E69
  show wpList _ _ _ _ (fr [(.agg #[(Fl r1), (Fl r3), (Fl r5)]), (.agg #[(Fl r7), (Fl r9), (Fl r11)]), (Pt b14 0), (Pt b21 0), (Bo false), (Pt b14 0), (Fl r1), (Fd r31), (Pt b21 0), (Fl r7), (Fd r36), (Bo (sameF (cf .f64 r31) (cf .f64 r36))), (Bo (!(sameF (cf .f64 r31) (cf .f64 r36)))), (Pt b14 1), (Fl r3), (Fd r49), (Pt b21 1), (Fl r9), (Fd r54), (Bo (sameF (cf .f64 r49) (cf .f64 r54))), (Bo (!(sameF (cf .f64 r49) (cf .f64 r54)))), (Pt b14 2), (Fl r5), (Fd r67), Ud, Ud, Ud, Ud, Ud]) _
  refine q_is rfl rfl (does_fieldAddr (ev rfl) fa31_2) (by dsimp only [List.set]; try rfl) ?_
  refine q_is rfl rfl (does_load (u := (Fl r11)) (ev rfl) Try.isAgg22 (Cells.at (Blk.cells (((((((hB23.ext E33).ext E38).ext E41).ext E51).ext E56).ext E59).ext E69)) 2 rfl)) (by dsimp only [List.set]; try rfl) ?_
  refine seqd rfl rfl (does_widen Try.underlying22 Try.underlying37 (ev rfl)) ?_; rintro _ w75 ⟨r72, rfl, h73, E74⟩
  have X76 := Ext.gr X71 E74
  show wpList _ _ _ _ (fr [(.agg #[(Fl r1), (Fl r3), (Fl r5)]), (.agg #[(Fl r7), (Fl r9), (Fl r11)]), (Pt b14 0), (Pt b21 0), (Bo false), (Pt b14 0), (Fl r1), (Fd r31), (Pt b21 0), (Fl r7), (Fd r36), (Bo (sameF (cf .f64 r31) (cf .f64 r36))), (Bo (!(sameF (cf .f64 r31) (cf .f64 r36)))), (Pt b14 1), (Fl r3), (Fd r49), (Pt b21 1), (Fl r9), (Fd r54), (Bo (sameF (cf .f64 r49) (cf .f64 r54))), (Bo (!(sameF (cf .f64 r49) (cf .f64 r54)))), (Pt b14 2), (Fl r5), (Fd r67), (Pt b21 2), (Fl r11), (Fd r72), Ud, Ud]) _
  refine seqd rfl rfl (does_call (args := #[(Fd r67), (Fd r72)]) cal10 (evs rfl) (c_laws_sameFloat r67 r72 _)) ?_; rintro _ w78 ⟨E77, rfl⟩
  have X79 := Ext.gr X76 E77
  show wpList _ _ _ _ (fr [(.agg #[(Fl r1), (Fl r3), (Fl r5)]), (.agg #[(Fl r7), (Fl r9), (Fl r11)]), (Pt b14 0), (Pt b21 0), (Bo false), (Pt b14 0), (Fl r1), (Fd r31), (Pt b21 0), (Fl r7), (Fd r36), (Bo (sameF (cf .f64 r31) (cf .f64 r36))), (Bo (!(sameF (cf .f64 r31) (cf .f64 r36)))), (Pt b14 1), (Fl r3), (Fd r49), (Pt b21 1), (Fl r9), (Fd r54), (Bo (sameF (cf .f64 r49) (cf .f64 r54))), (Bo (!(sameF (cf .f64 r49) (cf .f64 r54)))), (Pt b14 2), (Fl r5), (Fd r67), (Pt b21 2), (Fl r11), (Fd r72), (Bo (sameF (cf .f64 r67) (cf .f64 r72))), Ud]) _
  refine q_is rfl rfl (does_not (ev rfl)) (by dsimp only [List.set]; try rfl) ?_
  refine wpList_nil (hK66 _ _ ?_)
  refine wp_cond_split (t := !(sameF (cf .f64 r67) (cf .f64 r72))) (ev rfl) (fun c80 => ?_) (fun c80 => ?_)
  · rw [Bool.not_eq_true'] at c80
    have c80' := c80
    refine wp_seq_k fun K81 hK81 => ?_
    refine wp_region_lit ?_
    refine q_is rfl rfl (does_assign (u := (Bo false)) (ev rfl)) (by dsimp only [List.set]; try rfl) ?_
    refine wpList_nil (hK81 _ _ ?_)
    refine wp_ret ?_
    dsimp only [Exit.then, Exit.inBlock]
    refine ret_val (v := (Bo false)) (res_T rfl (slot rfl)) X79 ?_
    try simp only [h2, h4, h6, h8, h10, h12, h32, h37, h50, h55, h68, h73] at c44 c62 c80
    have x82 : (sameV A_a A_b) = false := by first | with_reducible rfl | (simp only [sameV, h2, h4, h6, h8, h10, h12, h32, h37, h50, h55, h68, h73, c44, c62, c80]; done) | (simp [sameV, h2, h4, h6, h8, h10, h12, h32, h37, h50, h55, h68, h73, c44, c62, c80]; done) | (revert c44 c62 c80; simp +contextual [sameV, h2, h4, h6, h8, h10, h12, h32, h37, h50, h55, h68, h73]; done) | (rcases c44' with hh | hh <;> simp only [hh, sameV, h2, h4, h6, h8, h10, h12, h32, h37, h50, h55, h68, h73, c44, c62, c80]; done) | (rcases c62' with hh | hh <;> simp only [hh, sameV, h2, h4, h6, h8, h10, h12, h32, h37, h50, h55, h68, h73, c44, c62, c80]; done) | (rcases c80' with hh | hh <;> simp only [hh, sameV, h2, h4, h6, h8, h10, h12, h32, h37, h50, h55, h68, h73, c44, c62, c80]; done) | (rcases c80' with hh | hh <;> simp_all [sameV]; done) | (rcases c80' with hh | hh | hh <;> simp_all [sameV]; done) | (rcases c80' with hh | hh | hh | hh <;> simp_all [sameV]; done) | (simp_all [sameV]; done) | rfl
    exact (by first | rfl | rw [x82])
  rw [Bool.not_eq_false'] at c80
  have c80' := c80
  refine wp_skip (hK65 _ _ ?_)
  refine wp_seq_k fun K83 hK83 => ?_
  refine wp_region_lit ?_
  refine q_is rfl rfl (does_assign (u := (Bo true)) (ev rfl)) (by dsimp only [List.set]; try rfl) ?_
  refine wpList_nil (hK83 _ _ ?_)
  refine wp_ret ?_
  refine ret_val (v := (Bo true)) (res_T rfl (slot rfl)) X79 ?_
  try simp only [h2, h4, h6, h8, h10, h12, h32, h37, h50, h55, h68, h73] at c44 c62 c80
  have x84 : (sameV A_a A_b) = true := by first | with_reducible rfl | (simp only [sameV, h2, h4, h6, h8, h10, h12, h32, h37, h50, h55, h68, h73, c44, c62, c80]; done) | (simp [sameV, h2, h4, h6, h8, h10, h12, h32, h37, h50, h55, h68, h73, c44, c62, c80]; done) | (revert c44 c62 c80; simp +contextual [sameV, h2, h4, h6, h8, h10, h12, h32, h37, h50, h55, h68, h73]; done) | (rcases c44' with hh | hh <;> simp only [hh, sameV, h2, h4, h6, h8, h10, h12, h32, h37, h50, h55, h68, h73, c44, c62, c80]; done) | (rcases c62' with hh | hh <;> simp only [hh, sameV, h2, h4, h6, h8, h10, h12, h32, h37, h50, h55, h68, h73, c44, c62, c80]; done) | (rcases c80' with hh | hh <;> simp only [hh, sameV, h2, h4, h6, h8, h10, h12, h32, h37, h50, h55, h68, h73, c44, c62, c80]; done) | (rcases c80' with hh | hh <;> simp_all [sameV]; done) | (rcases c80' with hh | hh | hh <;> simp_all [sameV]; done) | (rcases c80' with hh | hh | hh | hh <;> simp_all [sameV]; done) | (simp_all [sameV]; done) | rfl
  exact (by first | rfl | rw [x84])

/- laws.eqFloat32S -/
theorem c_laws_eqFloat32S (a : Value) (L_a : List Nat) (b : Value) (L_b : List Nat) (w : World) (hv_a : Sl RF 1 w a L_a) (hv_b : Sl RF 1 w b L_b) : Gives Try.prog 23 #[a, b] w (fun v w' => v = (Bo (sameL L_a L_b))) := by
  have hlen_a := Sl.len hv_a; obtain ⟨p_a, q_a, rfl⟩ := Sl.shape hv_a
  have hlen_b := Sl.len hv_b; obtain ⟨p_b, q_b, rfl⟩ := Sl.shape hv_b
  refine enter [(.slice p_a L_a.length q_a), (.slice p_b L_b.length q_b), Ud, Ud, Ud, Ud, Ud, Ud, Ud, Ud, Ud, Ud, Ud, Ud, Ud, Ud, Ud, Ud, Ud, Ud, Ud, Ud, Ud, Ud, Ud, Ud, Ud, Ud, Ud] Try.func23 rfl Try.ntmps23 rfl ?_
  refine wp_seq_k fun K1 hK1 => ?_
  refine wp_region_lit ?_
  refine q_is rfl rfl (does_assign (u := (Bo false)) (ev rfl)) (by dsimp only [List.set]; try rfl) ?_
  refine wpList_nil (hK1 _ _ ?_)
  refine wp_seq_k fun K2 hK2 => ?_
  refine wp_seq_k fun K3 hK3 => ?_
  refine wp_region_lit ?_
  refine q_is rfl rfl (does_move (u := (.slice p_a L_a.length q_a)) (ev rfl)) (by dsimp only [List.set]; try rfl) ?_
  refine q_is rfl rfl (does_len_slice Try.underlying25 (ev rfl)) (by dsimp only [List.set]; try rfl) ?_
  refine q_is rfl rfl (does_move (u := (.slice p_b L_b.length q_b)) (ev rfl)) (by dsimp only [List.set]; try rfl) ?_
  refine q_is rfl rfl (does_len_slice Try.underlying25 (ev rfl)) (by dsimp only [List.set]; try rfl) ?_
  refine q_is rfl rfl (does_icmp (p := (L_a.length : Int)) (q := (L_b.length : Int)) (.inr (.inl rfl)) (ev rfl) (ev rfl)) (by dsimp only [List.set]; try rfl) ?_
  refine wpList_nil (hK3 _ _ ?_)
  refine wp_cond_split (t := icmp .neq (L_a.length : Int) (L_b.length : Int)) (ev rfl) (fun c4 => ?_) (fun c4 => ?_)
  · have c4' := c4
    (try simp only [icmp, Bool.and_eq_true, Bool.or_eq_true, Bool.and_eq_false_iff, Bool.or_eq_false_iff, Bool.not_eq_true', Bool.not_eq_false', decide_eq_true_eq, decide_eq_false_iff_not, beq_iff_eq, bne_iff_ne, beq_eq_false_iff_ne, bne_eq_false_iff_eq] at c4')
    refine wp_seq_k fun K5 hK5 => ?_
    refine wp_region_lit ?_
    refine q_is rfl rfl (does_assign (u := (Bo false)) (ev rfl)) (by dsimp only [List.set]; try rfl) ?_
    refine wpList_nil (hK5 _ _ ?_)
    refine wp_ret ?_
    dsimp only [Exit.then, Exit.inBlock]
    refine ret_val (v := (Bo false)) (res_T rfl (slot rfl)) (Ext.refl w) ?_
    have x6 : (sameL L_a L_b) = false := by first | exact (sameL_len (by omega)) | exact (sameL_not (by omega) (by assumption) (by assumption) (by simp_all)) | exact (sameL_all (by omega) (by omega) hs)
    exact (by first | rfl | rw [x6])
  have c4' := c4
  (try simp only [icmp, Bool.and_eq_true, Bool.or_eq_true, Bool.and_eq_false_iff, Bool.or_eq_false_iff, Bool.not_eq_true', Bool.not_eq_false', decide_eq_true_eq, decide_eq_false_iff_not, beq_iff_eq, bne_iff_ne, beq_eq_false_iff_ne, bne_eq_false_iff_eq] at c4')
  refine wp_skip (hK2 _ _ ?_)
  refine wp_seq_k fun K7 hK7 => ?_
  refine wp_seq_k fun K8 hK8 => ?_
  refine wp_region_lit ?_
  refine q_is rfl rfl (does_assign (u := (Iv 0)) (ev rfl)) (by dsimp only [List.set]; try rfl) ?_
  refine wpList_nil (hK8 _ _ ?_)
  refine wp_block ?_
  refine loop_ghost (σ := Nat) (fun k a w' => ∃ u9 : Nat → Value, a = fr [(.slice p_a L_a.length q_a), (.slice p_b L_b.length q_b), Ud, Ud, (u9 4), (Iv (k : Int)), (.slice p_a L_a.length q_a), (Iv (L_a.length : Int)), (.slice p_b L_b.length q_b), (Iv (L_b.length : Int)), (Bo (icmp .neq (L_a.length : Int) (L_b.length : Int))), (u9 11), (u9 12), (u9 13), (u9 14), (u9 15), (u9 16), (u9 17), (u9 18), (u9 19), (u9 20), (u9 21), (u9 22), (u9 23), (u9 24), (u9 25), (u9 26), (u9 27), (u9 28)] ∧ Ext w w' ∧ (k ≤ L_a.length ∧ SameTo L_a L_b k)) (fun k => L_a.length - k) 0 ?_ ?_
  · refine ⟨fun t => (([(.slice p_a L_a.length q_a), (.slice p_b L_b.length q_b), Ud, Ud, (Bo false), (Iv 0), (.slice p_a L_a.length q_a), (Iv (L_a.length : Int)), (.slice p_b L_b.length q_b), (Iv (L_b.length : Int)), (Bo (icmp .neq (L_a.length : Int) (L_b.length : Int))), Ud, Ud, Ud, Ud, Ud, Ud, Ud, Ud, Ud, Ud, Ud, Ud, Ud, Ud, Ud, Ud, Ud, Ud] : List Value)[t]?).getD undef, rfl, Ext.refl _, ?_⟩
    exact ⟨Nat.zero_le _, SameTo.zero⟩
  · rintro k a w10 ⟨u9, rfl, E11, ⟨hk, hs⟩⟩
    have X13 := Ext.gr (Ext.refl w) E11
    refine wp_seq_k fun K14 hK14 => ?_
    refine wp_seq_k fun K15 hK15 => ?_
    refine wp_region_lit ?_
    refine q_is rfl rfl (does_move (u := (Iv (k : Int))) (ev rfl)) (by dsimp only [List.set]; try rfl) ?_
    refine q_is rfl rfl (does_move (u := (.slice p_a L_a.length q_a)) (ev rfl)) (by dsimp only [List.set]; try rfl) ?_
    refine q_is rfl rfl (does_len_slice Try.underlying25 (ev rfl)) (by dsimp only [List.set]; try rfl) ?_
    refine q_is rfl rfl (does_icmp (p := (k : Int)) (q := (L_a.length : Int)) (.inr (.inr (.inl rfl))) (ev rfl) (ev rfl)) (by dsimp only [List.set]; try rfl) ?_
    refine wpList_nil (hK15 _ _ ?_)
    refine wp_cond_split (t := icmp .lss (k : Int) (L_a.length : Int)) (ev rfl) (fun c16 => ?_) (fun c16 => ?_)
    · have c16' := c16
      (try simp only [icmp, Bool.and_eq_true, Bool.or_eq_true, Bool.and_eq_false_iff, Bool.or_eq_false_iff, Bool.not_eq_true', Bool.not_eq_false', decide_eq_true_eq, decide_eq_false_iff_not, beq_iff_eq, bne_iff_ne, beq_eq_false_iff_ne, bne_eq_false_iff_eq] at c16')
      refine wp_skip (hK14 _ _ ?_)
      refine wp_seq_k fun K17 hK17 => ?_
      refine wp_block ?_
      refine wp_seq_k fun K18 hK18 => ?_
      obtain ⟨el1, hel1⟩ : ∃ e, L_a[k]? = some e := ⟨_, List.getElem?_eq_getElem (by omega)⟩
      obtain ⟨el2, hel2⟩ : ∃ e, L_b[k]? = some e := ⟨_, List.getElem?_eq_getElem (by omega)⟩
      obtain ⟨β1, hβ1⟩ : ∃ b : Bool, b = (sameF (fwid el1) (fwid el2)) := ⟨_, rfl⟩
      refine region_draw (
        [Fact.pure [] (fun v => v = (.slice p_a L_a.length q_a)),
    Fact.pure [] (fun v => v = (Iv (k : Int))),
    Fact.mem [17, 18] (fun v w' => PtrR RF w' v el1) (by intro v w1 w2 hx h; exact h.ext RF.mono hx),
    Fact.pure [19] (fun v => ∃ r_1 : Nat, v = (Fl r_1) ∧ cf .f32 r_1 = el1),
    Fact.pure [20] (fun v => ∃ r_1 : Nat, v = (Fd r_1) ∧ cf .f64 r_1 = fwid el1),
    Fact.pure [] (fun v => v = (.slice p_b L_b.length q_b)),
    Fact.pure [] (fun v => v = (Iv (k : Int))),
    Fact.mem [22, 23] (fun v w' => PtrR RF w' v el2) (by intro v w1 w2 hx h; exact h.ext RF.mono hx),
    Fact.pure [24] (fun v => ∃ r_1 : Nat, v = (Fl r_1) ∧ cf .f32 r_1 = el2),
    Fact.pure [25] (fun v => ∃ r_1 : Nat, v = (Fd r_1) ∧ cf .f64 r_1 = fwid el2),
    Fact.pure [21, 26] (fun v => v = (Bo β1)),
    Fact.pure [27] (fun v => v = (Bo (!β1)))]) mixed (by kernel_rfl) (by intro _ _ d _ _ h; cases d <;> exact h) ?_
      obtain ⟨w19, hw21⟩ : ∃ w', w' = World.drew w10 := ⟨_, rfl⟩; rw [← hw21]; have E20 : Ext w10 w19 := by rw [hw21]; exact Ext.draw _
      clear hw21
      have X22 := Ext.gr X13 E20
      refine RW_d _ rfl (fun v => by dsimp only [List.set]; try rfl) (fun u hu hF => ?_) (fun v23 => ?_)
      · clear hF
        refine doesG_un rfl ?_
        refine (does_move (u := (.slice p_a L_a.length q_a)) (ev rfl)).mono ?_; rintro _ _ ⟨rfl, rfl⟩
        exact ⟨rfl, Ext.refl _⟩
      refine RW_d _ rfl (fun v => by dsimp only [List.set]; try rfl) (fun u hu hF => ?_) (fun v24 => ?_)
      · clear hF
        refine doesG_un rfl ?_
        refine (does_move (u := (Iv (k : Int))) (ev rfl)).mono ?_; rintro _ _ ⟨rfl, rfl⟩
        exact ⟨rfl, Ext.refl _⟩
      refine RW_d _ rfl (fun v => by dsimp only [List.set]; try rfl) (fun u hu hF => ?_) (fun v25 => ?_)
      · have h17_ : v23 = (.slice p_a L_a.length q_a) := hF.1
        have h18_ : v24 = (Iv (k : Int)) := hF.2.1
        clear hF
        refine doesG_un rfl ?_
        obtain rfl := h17_
        obtain rfl := h18_
        refine (does_indexSl (R := RF) (i := (k : Int)) (xs := L_a) (e := el1) Try.underlying25 Try.sizeOf22 (ev rfl) (ev rfl) (Sl.ext (Sl.ext hv_a RF.mono (Ext.gr X13 E20)) RF.mono hu) (by omega) hel1).mono ?_; rintro v u' ⟨b, of, cs, hv, hc, hR, hu'⟩; subst hu'
        exact ⟨⟨b, of, cs, hv, hc, hR⟩, Ext.refl _⟩
      refine RW_d _ rfl (fun v => by dsimp only [List.set]; try rfl) (fun u hu hF => ?_) (fun v26 => ?_)
      · have h19_ : PtrR RF u v25 el1 := hF.1
        clear hF
        refine doesG_un rfl ?_
        obtain ⟨b19_, o19_, _, rfl, hc19_, ⟨r19_1, rfl, h19_2⟩⟩ := h19_
        refine (does_load (u := (Fl r19_1)) (ev rfl) Try.isAgg22 (Cells.at hc19_ 0 rfl)).mono ?_; rintro _ _ ⟨rfl, rfl⟩
        exact ⟨⟨r19_1, rfl, (by simp only [h19_2])⟩, Ext.refl _⟩
      refine RW_d _ rfl (fun v => by dsimp only [List.set]; try rfl) (fun u hu hF => ?_) (fun v27 => ?_)
      · have h20_ : ∃ r_1 : Nat, v26 = (Fl r_1) ∧ cf .f32 r_1 = el1 := hF.1
        clear hF
        refine doesG_un rfl ?_
        obtain ⟨r20_1, rfl, h20_2⟩ := h20_
        refine (does_widen Try.underlying22 Try.underlying37 (ev rfl)).mono ?_; rintro _ _ ⟨r, rfl, hr, hx⟩
        exact ⟨⟨r, rfl, (by simp only [hr, h20_2])⟩, hx⟩
      refine RW_d _ rfl (fun v => by dsimp only [List.set]; try rfl) (fun u hu hF => ?_) (fun v28 => ?_)
      · clear hF
        refine doesG_un rfl ?_
        refine (does_move (u := (.slice p_b L_b.length q_b)) (ev rfl)).mono ?_; rintro _ _ ⟨rfl, rfl⟩
        exact ⟨rfl, Ext.refl _⟩
      refine RW_d _ rfl (fun v => by dsimp only [List.set]; try rfl) (fun u hu hF => ?_) (fun v29 => ?_)
      · clear hF
        refine doesG_un rfl ?_
        refine (does_move (u := (Iv (k : Int))) (ev rfl)).mono ?_; rintro _ _ ⟨rfl, rfl⟩
        exact ⟨rfl, Ext.refl _⟩
      refine RW_d _ rfl (fun v => by dsimp only [List.set]; try rfl) (fun u hu hF => ?_) (fun v30 => ?_)
      · have h22_ : v28 = (.slice p_b L_b.length q_b) := hF.1
        have h23_ : v29 = (Iv (k : Int)) := hF.2.1
        clear hF
        refine doesG_un rfl ?_
        obtain rfl := h22_
        obtain rfl := h23_
        refine (does_indexSl (R := RF) (i := (k : Int)) (xs := L_b) (e := el2) Try.underlying25 Try.sizeOf22 (ev rfl) (ev rfl) (Sl.ext (Sl.ext hv_b RF.mono (Ext.gr X13 E20)) RF.mono hu) (by omega) hel2).mono ?_; rintro v u' ⟨b, of, cs, hv, hc, hR, hu'⟩; subst hu'
        exact ⟨⟨b, of, cs, hv, hc, hR⟩, Ext.refl _⟩
      refine RW_d _ rfl (fun v => by dsimp only [List.set]; try rfl) (fun u hu hF => ?_) (fun v31 => ?_)
      · have h24_ : PtrR RF u v30 el2 := hF.1
        clear hF
        refine doesG_un rfl ?_
        obtain ⟨b24_, o24_, _, rfl, hc24_, ⟨r24_1, rfl, h24_2⟩⟩ := h24_
        refine (does_load (u := (Fl r24_1)) (ev rfl) Try.isAgg22 (Cells.at hc24_ 0 rfl)).mono ?_; rintro _ _ ⟨rfl, rfl⟩
        exact ⟨⟨r24_1, rfl, (by simp only [h24_2])⟩, Ext.refl _⟩
      refine RW_d _ rfl (fun v => by dsimp only [List.set]; try rfl) (fun u hu hF => ?_) (fun v32 => ?_)
      · have h25_ : ∃ r_1 : Nat, v31 = (Fl r_1) ∧ cf .f32 r_1 = el2 := hF.1
        clear hF
        refine doesG_un rfl ?_
        obtain ⟨r25_1, rfl, h25_2⟩ := h25_
        refine (does_widen Try.underlying22 Try.underlying37 (ev rfl)).mono ?_; rintro _ _ ⟨r, rfl, hr, hx⟩
        exact ⟨⟨r, rfl, (by simp only [hr, h25_2])⟩, hx⟩
      refine RW_d _ rfl (fun v => by dsimp only [List.set]; try rfl) (fun u hu hF => ?_) (fun v33 => ?_)
      · have h21_ : ∃ r_1 : Nat, v27 = (Fd r_1) ∧ cf .f64 r_1 = fwid el1 := hF.1
        have h26_ : ∃ r_1 : Nat, v32 = (Fd r_1) ∧ cf .f64 r_1 = fwid el2 := hF.2.1
        clear hF
        refine doesG_un rfl ?_
        obtain ⟨r21_1, rfl, h21_2⟩ := h21_
        obtain ⟨r26_1, rfl, h26_2⟩ := h26_
        refine (does_call (args := #[(Fd r21_1), (Fd r26_1)]) cal10 (evs rfl) (c_laws_sameFloat r21_1 r26_1 _)).mono ?_; rintro v u' ⟨hx, hv⟩
        exact ⟨hv.trans (by simp only [hβ1, h21_2, h26_2]), hx⟩
      refine RW_d _ rfl (fun v => by dsimp only [List.set]; try rfl) (fun u hu hF => ?_) (fun v34 => ?_)
      · have h27_ : v33 = (Bo β1) := hF.1
        clear hF
        refine doesG_un rfl ?_
        obtain rfl := h27_
        refine (does_not (ev rfl)).mono ?_; rintro _ _ ⟨rfl, rfl⟩
        exact ⟨rfl, Ext.refl _⟩
      refine RW_fin ?_; intro w35 E36 hP37
      obtain ⟨⟨⟨⟨⟨⟨⟨⟨⟨⟨⟨⟨-, -⟩, -⟩, -⟩, -⟩, -⟩, -⟩, -⟩, -⟩, -⟩, -⟩, -⟩, q38⟩ := hP37
      have X39 := Ext.gr X22 E36
      have q38 : v34 = (Bo (!β1)) := q38
      obtain rfl := q38
      show wpList _ _ _ _ (fr [(.slice p_a L_a.length q_a), (.slice p_b L_b.length q_b), Ud, Ud, (u9 4), (Iv (k : Int)), (.slice p_a L_a.length q_a), (Iv (L_a.length : Int)), (.slice p_b L_b.length q_b), (Iv (L_b.length : Int)), (Bo (icmp .neq (L_a.length : Int) (L_b.length : Int))), (Iv (k : Int)), (.slice p_a L_a.length q_a), (Iv (L_a.length : Int)), (Bo (icmp .lss (k : Int) (L_a.length : Int))), (u9 15), (u9 16), v23, v24, v25, v26, v27, v28, v29, v30, v31, v32, v33, (Bo (!β1))]) _
      refine wpList_nil (hK18 _ _ ?_)
      refine wp_cond_split (t := !β1) (ev rfl) (fun c40 => ?_) (fun c40 => ?_)
      · rw [Bool.not_eq_true'] at c40
        have c40' := c40
        (try simp only [hβ1] at c40')
        (try simp only [icmp, Bool.and_eq_true, Bool.or_eq_true, Bool.and_eq_false_iff, Bool.or_eq_false_iff, Bool.not_eq_true', Bool.not_eq_false', decide_eq_true_eq, decide_eq_false_iff_not, beq_iff_eq, bne_iff_ne, beq_eq_false_iff_ne, bne_eq_false_iff_eq] at c40')
        refine wp_seq_k fun K41 hK41 => ?_
        refine wp_region_lit ?_
        refine q_is rfl rfl (does_assign (u := (Bo false)) (ev rfl)) (by dsimp only [List.set]; try rfl) ?_
        refine wpList_nil (hK41 _ _ ?_)
        refine wp_ret ?_
        dsimp only [Exit.then, Exit.inBlock]
        refine ret_val (v := (Bo false)) (res_T rfl (slot rfl)) X39 ?_
        try simp only [hβ1, hel1, hel2] at c4 c16 c40
        have x42 : (sameL L_a L_b) = false := by first | exact (sameL_len (by omega)) | exact (sameL_not (by omega) (by assumption) (by assumption) (by simp_all)) | exact (sameL_all (by omega) (by omega) hs)
        exact (by first | rfl | rw [x42])
      rw [Bool.not_eq_false'] at c40
      have c40' := c40
      (try simp only [hβ1] at c40')
      (try simp only [icmp, Bool.and_eq_true, Bool.or_eq_true, Bool.and_eq_false_iff, Bool.or_eq_false_iff, Bool.not_eq_true', Bool.not_eq_false', decide_eq_true_eq, decide_eq_false_iff_not, beq_iff_eq, bne_iff_ne, beq_eq_false_iff_ne, bne_eq_false_iff_eq] at c40')
      refine wp_skip (hK17 _ _ ?_)
      refine wp_region_lit ?_
      refine q_is rfl rfl (does_move (u := (Iv (k : Int))) (ev rfl)) (by dsimp only [List.set]; try rfl) ?_
      refine q_is rfl rfl (does_iarith (p := (k : Int)) (q := 1) (r := (k : Int) + 1) (ev rfl) (ev rfl) (.inl ⟨rfl, (in_i64 (by omega) (by omega)).symm⟩)) (by dsimp only [List.set]; try rfl) ?_
      refine q_is rfl rfl (does_assign (u := (Iv ((k : Int) + 1))) (ev rfl)) (by dsimp only [List.set]; try rfl) ?_
      refine wpList_nil ?_
      refine ⟨k + 1, ⟨fun t => (([(.slice p_a L_a.length q_a), (.slice p_b L_b.length q_b), Ud, Ud, (u9 4), (Iv ((k : Int) + 1)), (.slice p_a L_a.length q_a), (Iv (L_a.length : Int)), (.slice p_b L_b.length q_b), (Iv (L_b.length : Int)), (Bo (icmp .neq (L_a.length : Int) (L_b.length : Int))), (Iv (k : Int)), (.slice p_a L_a.length q_a), (Iv (L_a.length : Int)), (Bo (icmp .lss (k : Int) (L_a.length : Int))), (Iv (k : Int)), (Iv ((k : Int) + 1)), v23, v24, v25, v26, v27, v28, v29, v30, v31, v32, v33, (Bo (!β1))] : List Value)[t]?).getD undef, ?_, (Ext.gr (Ext.gr E11 E20) E36), ?_⟩, ?_⟩
      · first | rfl | (simp only [Nat.cast_add, Nat.cast_one, Int.natCast_add, Int.natCast_one]; rfl)
      · exact ⟨by omega, SameTo.step hs (by assumption) (by assumption) (by simp_all)⟩
      · omega
    have c16' := c16
    (try simp only [icmp, Bool.and_eq_true, Bool.or_eq_true, Bool.and_eq_false_iff, Bool.or_eq_false_iff, Bool.not_eq_true', Bool.not_eq_false', decide_eq_true_eq, decide_eq_false_iff_not, beq_iff_eq, bne_iff_ne, beq_eq_false_iff_ne, bne_eq_false_iff_eq] at c16')
    refine wp_exit ?_
    refine hK7 _ _ ?_
    refine wp_seq_k fun K43 hK43 => ?_
    refine wp_region_lit ?_
    refine q_is rfl rfl (does_assign (u := (Bo true)) (ev rfl)) (by dsimp only [List.set]; try rfl) ?_
    refine wpList_nil (hK43 _ _ ?_)
    refine wp_ret ?_
    refine ret_val (v := (Bo true)) (res_T rfl (slot rfl)) X13 ?_
    have x44 : (sameL L_a L_b) = true := by first | exact (sameL_len (by omega)) | exact (sameL_not (by omega) (by assumption) (by assumption) (by simp_all)) | exact (sameL_all (by omega) (by omega) hs)
    exact (by first | rfl | rw [x44])

/- laws.eqGrid -/
theorem c_laws_eqGrid (a : List Value) (A_a : GridT) (b : List Value) (A_b : GridT) (w : World) (hv_a : RGridT w A_a a) (hv_b : RGridT w A_b b) : Gives Try.prog 11 #[(.agg a.toArray), (.agg b.toArray)] w (fun v w' => v = (Bo (sameG A_a A_b))) := by
  obtain ⟨r1, r3, r5, r7, y9, rfl, h2, h4, h6, h8, h10⟩ := hv_a
  obtain ⟨r11, r13, r15, r17, y19, rfl, h12, h14, h16, h18, h20⟩ := hv_b
  have hs23 := h10; have hs23l := Sl.len h10; obtain ⟨p21, q22, rfl⟩ := Sl.shape h10
  have hs26 := h20; have hs26l := Sl.len h20; obtain ⟨p24, q25, rfl⟩ := Sl.shape h20
  refine enter [(.agg #[(Fl r1), (Fl r3), (Fl r5), (Fl r7), (Iv A_a.x), (Iv A_a.y), (Iv A_a.z), (.slice p21 A_a.vals.length q22)]), (.agg #[(Fl r11), (Fl r13), (Fl r15), (Fl r17), (Iv A_b.x), (Iv A_b.y), (Iv A_b.z), (.slice p24 A_b.vals.length q25)]), Ud, Ud, Ud, Ud, Ud, Ud, Ud, Ud, Ud, Ud, Ud, Ud, Ud, Ud, Ud, Ud, Ud, Ud, Ud, Ud, Ud, Ud, Ud, Ud, Ud, Ud, Ud, Ud, Ud, Ud, Ud, Ud, Ud, Ud, Ud, Ud, Ud, Ud] Try.func11 rfl Try.ntmps11 rfl ?_
  refine wp_seq_k fun K27 hK27 => ?_
  refine wp_region_lit ?_
  refine seqd rfl rfl (does_box (u := (.agg #[(Fl r1), (Fl r3), (Fl r5), (Fl r7), (Iv A_a.x), (Iv A_a.y), (Iv A_a.z), (.slice p21 A_a.vals.length q22)])) (ev rfl)) ?_; rintro _ w32 ⟨b28, rfl, hb29, hB30, E31⟩
  have g33 : w.heap.size ≤ b28 := Nat.le_trans (Below.size (Ext.refl w)) hb29
  change Blk _ _ [(Fl r1), (Fl r3), (Fl r5), (Fl r7), (Iv A_a.x), (Iv A_a.y), (Iv A_a.z), (.slice p21 A_a.vals.length q22)] at hB30
  have X34 := Ext.gr (Ext.refl w) E31
  show wpList _ _ _ _ (fr [(.agg #[(Fl r1), (Fl r3), (Fl r5), (Fl r7), (Iv A_a.x), (Iv A_a.y), (Iv A_a.z), (.slice p21 A_a.vals.length q22)]), (.agg #[(Fl r11), (Fl r13), (Fl r15), (Fl r17), (Iv A_b.x), (Iv A_b.y), (Iv A_b.z), (.slice p24 A_b.vals.length q25)]), (Pt b28 0), Ud, Ud, Ud, Ud, Ud, Ud, Ud, Ud, Ud, Ud, Ud, Ud, Ud, Ud, Ud, Ud, Ud, Ud, Ud, Ud, Ud, Ud, Ud, Ud, Ud, Ud, Ud, Ud, Ud, Ud, Ud, Ud, Ud, Ud, Ud, Ud, Ud]) _
  refine seqd rfl rfl (does_box (u := (.agg #[(Fl r11), (Fl r13), (Fl r15), (Fl r17), (Iv A_b.x), (Iv A_b.y), (Iv A_b.z), (.slice p24 A_b.vals.length q25)])) (ev rfl)) ?_; rintro _ w39 ⟨b35, rfl, hb36, hB37, E38⟩
  have n40 : b28 < b35 := Nat.lt_of_lt_of_le (Blk.lt hB30) hb36
  have g41 : w.heap.size ≤ b35 := Nat.le_trans (Below.size X34) hb36
  change Blk _ _ [(Fl r11), (Fl r13), (Fl r15), (Fl r17), (Iv A_b.x), (Iv A_b.y), (Iv A_b.z), (.slice p24 A_b.vals.length q25)] at hB37
  have X42 := Ext.gr X34 E38
  show wpList _ _ _ _ (fr [(.agg #[(Fl r1), (Fl r3), (Fl r5), (Fl r7), (Iv A_a.x), (Iv A_a.y), (Iv A_a.z), (.slice p21 A_a.vals.length q22)]), (.agg #[(Fl r11), (Fl r13), (Fl r15), (Fl r17), (Iv A_b.x), (Iv A_b.y), (Iv A_b.z), (.slice p24 A_b.vals.length q25)]), (Pt b28 0), (Pt b35 0), Ud, Ud, Ud, Ud, Ud, Ud, Ud, Ud, Ud, Ud, Ud, Ud, Ud, Ud, Ud, Ud, Ud, Ud, Ud, Ud, Ud, Ud, Ud, Ud, Ud, Ud, Ud, Ud, Ud, Ud, Ud, Ud, Ud, Ud, Ud, Ud]) _
  refine q_is rfl rfl (does_assign (u := (Bo false)) (ev rfl)) (by dsimp only [List.set]; try rfl) ?_
  refine wpList_nil (hK27 _ _ ?_)
  refine wp_seq_k fun K43 hK43 => ?_
  refine wp_seq_k fun K44 hK44 => ?_
  refine wp_region_lit ?_
  refine q_is rfl rfl (does_fieldAddr (ev rfl) fa33_0) (by dsimp only [List.set]; try rfl) ?_
  refine q_is rfl rfl (does_loadAgg (cs := [(Fl r1), (Fl r3), (Fl r5)]) (ev rfl) Try.isAgg31 Try.sizeOf31 (Cells.sub (Blk.cells (hB30.ext E38)) 0 3) rfl) (by dsimp only [List.set]; try rfl) ?_
  refine q_is rfl rfl (does_fieldAddr (ev rfl) fa33_0) (by dsimp only [List.set]; try rfl) ?_
  refine q_is rfl rfl (does_loadAgg (cs := [(Fl r11), (Fl r13), (Fl r15)]) (ev rfl) Try.isAgg31 Try.sizeOf31 (Cells.sub (Blk.cells hB37) 0 3) rfl) (by dsimp only [List.set]; try rfl) ?_
  refine seqd rfl rfl (does_call (args := #[(.agg #[(Fl r1), (Fl r3), (Fl r5)]), (.agg #[(Fl r11), (Fl r13), (Fl r15)])]) cal14 (evs rfl) (c_laws_eqVector [(Fl r1), (Fl r3), (Fl r5)] A_a.low [(Fl r11), (Fl r13), (Fl r15)] A_b.low _ ⟨r1, r3, r5, rfl, h2, h4, h6⟩ ⟨r11, r13, r15, rfl, h12, h14, h16⟩)) ?_; rintro _ w46 ⟨E45, rfl⟩
  have X47 := Ext.gr X42 E45
  show wpList _ _ _ _ (fr [(.agg #[(Fl r1), (Fl r3), (Fl r5), (Fl r7), (Iv A_a.x), (Iv A_a.y), (Iv A_a.z), (.slice p21 A_a.vals.length q22)]), (.agg #[(Fl r11), (Fl r13), (Fl r15), (Fl r17), (Iv A_b.x), (Iv A_b.y), (Iv A_b.z), (.slice p24 A_b.vals.length q25)]), (Pt b28 0), (Pt b35 0), (Bo false), (Pt b28 0), (.agg #[(Fl r1), (Fl r3), (Fl r5)]), (Pt b35 0), (.agg #[(Fl r11), (Fl r13), (Fl r15)]), (Bo (sameV A_a.low A_b.low)), Ud, Ud, Ud, Ud, Ud, Ud, Ud, Ud, Ud, Ud, Ud, Ud, Ud, Ud, Ud, Ud, Ud, Ud, Ud, Ud, Ud, Ud, Ud, Ud, Ud, Ud, Ud, Ud, Ud, Ud]) _
  refine q_is rfl rfl (does_not (ev rfl)) (by dsimp only [List.set]; try rfl) ?_
  refine wpList_nil (hK44 _ _ ?_)
  refine wp_cond_split (t := !(sameV A_a.low A_b.low)) (ev rfl) (fun c48 => ?_) (fun c48 => ?_)
  · rw [Bool.not_eq_true'] at c48
    have c48' := c48
    refine wp_seq_k fun K49 hK49 => ?_
    refine wp_region_lit ?_
    refine q_is rfl rfl (does_assign (u := (Bo false)) (ev rfl)) (by dsimp only [List.set]; try rfl) ?_
    refine wpList_nil (hK49 _ _ ?_)
    refine wp_ret ?_
    dsimp only [Exit.then, Exit.inBlock]
    refine ret_val (v := (Bo false)) (res_T rfl (slot rfl)) X47 ?_
    try simp only [h2, h4, h6, h8, h12, h14, h16, h18] at c48
    have x50 : (sameG A_a A_b) = false := by first | with_reducible rfl | (simp only [sameG, icmp, h2, h4, h6, h8, h12, h14, h16, h18, c48]; done) | (simp [sameG, icmp, h2, h4, h6, h8, h12, h14, h16, h18, c48]; done) | (revert c48; simp +contextual [sameG, icmp, h2, h4, h6, h8, h12, h14, h16, h18]; done) | (rcases c48' with hh | hh <;> simp only [hh, sameG, icmp, h2, h4, h6, h8, h12, h14, h16, h18, c48]; done) | (rcases c48' with hh | hh <;> simp_all [sameG, icmp]; done) | (rcases c48' with hh | hh | hh <;> simp_all [sameG, icmp]; done) | (rcases c48' with hh | hh | hh | hh <;> simp_all [sameG, icmp]; done) | (simp_all [sameG, icmp]; done) | rfl
    exact (by first | rfl | rw [x50])
  rw [Bool.not_eq_false'] at c48
  have c48' := c48
  refine wp_skip (hK43 _ _ ?_)
  refine wp_seq_k fun K51 hK51 => ?_
  refine wp_seq_k fun K52 hK52 => ?_
  refine wp_region_lit ?_
  refine q_is rfl rfl (does_fieldAddr (ev rfl) fa33_1) (by dsimp only [List.set]; try rfl) ?_
  refine q_is rfl rfl (does_load (u := (Fl r7)) (ev rfl) Try.isAgg22 (Cells.at (Blk.cells ((hB30.ext E38).ext E45)) 3 rfl)) (by dsimp only [List.set]; try rfl) ?_
  refine seqd rfl rfl (does_widen Try.underlying22 Try.underlying37 (ev rfl)) ?_; rintro _ w56 ⟨r53, rfl, h54, E55⟩
  have X57 := Ext.gr X47 E55
  show wpList _ _ _ _ (fr [(.agg #[(Fl r1), (Fl r3), (Fl r5), (Fl r7), (Iv A_a.x), (Iv A_a.y), (Iv A_a.z), (.slice p21 A_a.vals.length q22)]), (.agg #[(Fl r11), (Fl r13), (Fl r15), (Fl r17), (Iv A_b.x), (Iv A_b.y), (Iv A_b.z), (.slice p24 A_b.vals.length q25)]), (Pt b28 0), (Pt b35 0), (Bo false), (Pt b28 0), (.agg #[(Fl r1), (Fl r3), (Fl r5)]), (Pt b35 0), (.agg #[(Fl r11), (Fl r13), (Fl r15)]), (Bo (sameV A_a.low A_b.low)), (Bo (!(sameV A_a.low A_b.low))), (Pt b28 3), (Fl r7), (Fd r53), Ud, Ud, Ud, Ud, Ud, Ud, Ud, Ud, Ud, Ud, Ud, Ud, Ud, Ud, Ud, Ud, Ud, Ud, Ud, Ud, Ud, Ud, Ud, Ud, Ud, Ud]) _
  refine q_is rfl rfl (does_fieldAddr (ev rfl) fa33_1) (by dsimp only [List.set]; try rfl) ?_
  refine q_is rfl rfl (does_load (u := (Fl r17)) (ev rfl) Try.isAgg22 (Cells.at (Blk.cells ((hB37.ext E45).ext E55)) 3 rfl)) (by dsimp only [List.set]; try rfl) ?_
  refine seqd rfl rfl (does_widen Try.underlying22 Try.underlying37 (ev rfl)) ?_; rintro _ w61 ⟨r58, rfl, h59, E60⟩
  have X62 := Ext.gr X57 E60
  show wpList _ _ _ _ (fr [(.agg #[(Fl r1), (Fl r3), (Fl r5), (Fl r7), (Iv A_a.x), (Iv A_a.y), (Iv A_a.z), (.slice p21 A_a.vals.length q22)]), (.agg #[(Fl r11), (Fl r13), (Fl r15), (Fl r17), (Iv A_b.x), (Iv A_b.y), (Iv A_b.z), (.slice p24 A_b.vals.length q25)]), (Pt b28 0), (Pt b35 0), (Bo false), (Pt b28 0), (.agg #[(Fl r1), (Fl r3), (Fl r5)]), (Pt b35 0), (.agg #[(Fl r11), (Fl r13), (Fl r15)]), (Bo (sameV A_a.low A_b.low)), (Bo (!(sameV A_a.low A_b.low))), (Pt b28 3), (Fl r7), (Fd r53), (Pt b35 3), (Fl r17), (Fd r58), Ud, Ud, Ud, Ud, Ud, Ud, Ud, Ud, Ud, Ud, Ud, Ud, Ud, Ud, Ud, Ud, Ud, Ud, Ud, Ud, Ud, Ud, Ud]) _
  refine seqd rfl rfl (does_call (args := #[(Fd r53), (Fd r58)]) cal10 (evs rfl) (c_laws_sameFloat r53 r58 _)) ?_; rintro _ w64 ⟨E63, rfl⟩
  have X65 := Ext.gr X62 E63
  show wpList _ _ _ _ (fr [(.agg #[(Fl r1), (Fl r3), (Fl r5), (Fl r7), (Iv A_a.x), (Iv A_a.y), (Iv A_a.z), (.slice p21 A_a.vals.length q22)]), (.agg #[(Fl r11), (Fl r13), (Fl r15), (Fl r17), (Iv A_b.x), (Iv A_b.y), (Iv A_b.z), (.slice p24 A_b.vals.length q25)]), (Pt b28 0), (Pt b35 0), (Bo false), (Pt b28 0), (.agg #[(Fl r1), (Fl r3), (Fl r5)]), (Pt b35 0), (.agg #[(Fl r11), (Fl r13), (Fl r15)]), (Bo (sameV A_a.low A_b.low)), (Bo (!(sameV A_a.low A_b.low))), (Pt b28 3), (Fl r7), (Fd r53), (Pt b35 3), (Fl r17), (Fd r58), (Bo (sameF (cf .f64 r53) (cf .f64 r58))), Ud, Ud, Ud, Ud, Ud, Ud, Ud, Ud, Ud, Ud, Ud, Ud, Ud, Ud, Ud, Ud, Ud, Ud, Ud, Ud, Ud, Ud]) _
  refine q_is rfl rfl (does_not (ev rfl)) (by dsimp only [List.set]; try rfl) ?_
  refine wpList_nil (hK52 _ _ ?_)
  refine wp_cond_split (t := !(sameF (cf .f64 r53) (cf .f64 r58))) (ev rfl) (fun c66 => ?_) (fun c66 => ?_)
  · rw [Bool.not_eq_true'] at c66
    have c66' := c66
    refine wp_seq_k fun K67 hK67 => ?_
    refine wp_region_lit ?_
    refine q_is rfl rfl (does_assign (u := (Bo false)) (ev rfl)) (by dsimp only [List.set]; try rfl) ?_
    refine wpList_nil (hK67 _ _ ?_)
    refine wp_ret ?_
    dsimp only [Exit.then, Exit.inBlock]
    refine ret_val (v := (Bo false)) (res_T rfl (slot rfl)) X65 ?_
    try simp only [h2, h4, h6, h8, h12, h14, h16, h18, h54, h59] at c48 c66
    have x68 : (sameG A_a A_b) = false := by first | with_reducible rfl | (simp only [sameG, icmp, h2, h4, h6, h8, h12, h14, h16, h18, h54, h59, c48, c66]; done) | (simp [sameG, icmp, h2, h4, h6, h8, h12, h14, h16, h18, h54, h59, c48, c66]; done) | (revert c48 c66; simp +contextual [sameG, icmp, h2, h4, h6, h8, h12, h14, h16, h18, h54, h59]; done) | (rcases c48' with hh | hh <;> simp only [hh, sameG, icmp, h2, h4, h6, h8, h12, h14, h16, h18, h54, h59, c48, c66]; done) | (rcases c66' with hh | hh <;> simp only [hh, sameG, icmp, h2, h4, h6, h8, h12, h14, h16, h18, h54, h59, c48, c66]; done) | (rcases c66' with hh | hh <;> simp_all [sameG, icmp]; done) | (rcases c66' with hh | hh | hh <;> simp_all [sameG, icmp]; done) | (rcases c66' with hh | hh | hh | hh <;> simp_all [sameG, icmp]; done) | (simp_all [sameG, icmp]; done) | rfl
    exact (by first | rfl | rw [x68])
  rw [Bool.not_eq_false'] at c66
  have c66' := c66
  refine wp_skip (hK51 _ _ ?_)
  refine wp_seq_k fun K69 hK69 => ?_
  refine wp_seq_k fun K70 hK70 => ?_
  refine wp_region_lit ?_
  refine q_is rfl rfl (does_fieldAddr (ev rfl) fa33_2) (by dsimp only [List.set]; try rfl) ?_
  refine q_is rfl rfl (does_load (u := (Iv A_a.x)) (ev rfl) Try.isAgg2 (Cells.at (Blk.cells (((((hB30.ext E38).ext E45).ext E55).ext E60).ext E63)) 4 rfl)) (by dsimp only [List.set]; try rfl) ?_
  refine q_is rfl rfl (does_fieldAddr (ev rfl) fa33_2) (by dsimp only [List.set]; try rfl) ?_
  refine q_is rfl rfl (does_load (u := (Iv A_b.x)) (ev rfl) Try.isAgg2 (Cells.at (Blk.cells ((((hB37.ext E45).ext E55).ext E60).ext E63)) 4 rfl)) (by dsimp only [List.set]; try rfl) ?_
  refine q_is rfl rfl (does_icmp (p := A_a.x) (q := A_b.x) (.inr (.inl rfl)) (ev rfl) (ev rfl)) (by dsimp only [List.set]; try rfl) ?_
  refine wpList_nil (hK70 _ _ ?_)
  refine wp_cond_split (t := icmp .neq A_a.x A_b.x) (ev rfl) (fun c71 => ?_) (fun c71 => ?_)
  · have c71' := c71
    (try simp only [icmp, Bool.and_eq_true, Bool.or_eq_true, Bool.and_eq_false_iff, Bool.or_eq_false_iff, Bool.not_eq_true', Bool.not_eq_false', decide_eq_true_eq, decide_eq_false_iff_not, beq_iff_eq, bne_iff_ne, beq_eq_false_iff_ne, bne_eq_false_iff_eq] at c71')
    refine wp_seq_k fun K72 hK72 => ?_
    refine wp_region_lit ?_
    refine q_is rfl rfl (does_assign (u := (Bo false)) (ev rfl)) (by dsimp only [List.set]; try rfl) ?_
    refine wpList_nil (hK72 _ _ ?_)
    refine wp_ret ?_
    dsimp only [Exit.then, Exit.inBlock]
    refine ret_val (v := (Bo false)) (res_T rfl (slot rfl)) X65 ?_
    try simp only [h2, h4, h6, h8, h12, h14, h16, h18, h54, h59] at c48 c66 c71
    have x73 : (sameG A_a A_b) = false := by first | with_reducible rfl | (simp only [sameG, icmp, h2, h4, h6, h8, h12, h14, h16, h18, h54, h59, c48, c66, c71]; done) | (simp [sameG, icmp, h2, h4, h6, h8, h12, h14, h16, h18, h54, h59, c48, c66, c71]; done) | (revert c48 c66 c71; simp +contextual [sameG, icmp, h2, h4, h6, h8, h12, h14, h16, h18, h54, h59]; done) | (rcases c48' with hh | hh <;> simp only [hh, sameG, icmp, h2, h4, h6, h8, h12, h14, h16, h18, h54, h59, c48, c66, c71]; done) | (rcases c66' with hh | hh <;> simp only [hh, sameG, icmp, h2, h4, h6, h8, h12, h14, h16, h18, h54, h59, c48, c66, c71]; done) | (rcases c71' with hh | hh <;> simp only [hh, sameG, icmp, h2, h4, h6, h8, h12, h14, h16, h18, h54, h59, c48, c66, c71]; done) | (rcases c71' with hh | hh <;> simp_all [sameG, icmp]; done) | (rcases c71' with hh | hh | hh <;> simp_all [sameG, icmp]; done) | (rcases c71' with hh | hh | hh | hh <;> simp_all [sameG, icmp]; done) | (simp_all [sameG, icmp]; done) | rfl
    exact (by first | rfl | rw [x73])
  have c71' := c71
  (try simp only [icmp, Bool.and_eq_true, Bool.or_eq_true, Bool.and_eq_false_iff, Bool.or_eq_false_iff, Bool.not_eq_true', Bool.not_eq_false', decide_eq_true_eq, decide_eq_false_iff_not, beq_iff_eq, bne_iff_ne, beq_eq_false_iff_ne, bne_eq_false_iff_eq] at c71')
  refine wp_skip (hK69 _ _ ?_)
  refine wp_seq_k fun K74 hK74 => ?_
  refine wp_seq_k fun K75 hK75 => ?_
  refine wp_region_lit ?_
  refine q_is rfl rfl (does_fieldAddr (ev rfl) fa33_3) (by dsimp only [List.set]; try rfl) ?_
  refine q_is rfl rfl (does_load (u := (Iv A_a.y)) (ev rfl) Try.isAgg2 (Cells.at (Blk.cells (((((hB30.ext E38).ext E45).ext E55).ext E60).ext E63)) 5 rfl)) (by dsimp only [List.set]; try rfl) ?_
  refine q_is rfl rfl (does_fieldAddr (ev rfl) fa33_3) (by dsimp only [List.set]; try rfl) ?_
  refine q_is rfl rfl (does_load (u := (Iv A_b.y)) (ev rfl) Try.isAgg2 (Cells.at (Blk.cells ((((hB37.ext E45).ext E55).ext E60).ext E63)) 5 rfl)) (by dsimp only [List.set]; try rfl) ?_
  refine q_is rfl rfl (does_icmp (p := A_a.y) (q := A_b.y) (.inr (.inl rfl)) (ev rfl) (ev rfl)) (by dsimp only [List.set]; try rfl) ?_
  refine wpList_nil (hK75 _ _ ?_)
  refine wp_cond_split (t := icmp .neq A_a.y A_b.y) (ev rfl) (fun c76 => ?_) (fun c76 => ?_)
  · have c76' := c76
    (try simp only [icmp, Bool.and_eq_true, Bool.or_eq_true, Bool.and_eq_false_iff, Bool.or_eq_false_iff, Bool.not_eq_true', Bool.not_eq_false', decide_eq_true_eq, decide_eq_false_iff_not, beq_iff_eq, bne_iff_ne, beq_eq_false_iff_ne, bne_eq_false_iff_eq] at c76')
    refine wp_seq_k fun K77 hK77 => ?_
    refine wp_region_lit ?_
    refine q_is rfl rfl (does_assign (u := (Bo false)) (ev rfl)) (by dsimp only [List.set]; try rfl) ?_
    refine wpList_nil (hK77 _ _ ?_)
    refine wp_ret ?_
    dsimp only [Exit.then, Exit.inBlock]
    refine ret_val (v := (Bo false)) (res_T rfl (slot rfl)) X65 ?_
    try simp only [h2, h4, h6, h8, h12, h14, h16, h18, h54, h59] at c48 c66 c71 c76
    have x78 : (sameG A_a A_b) = false := by first | with_reducible rfl | (simp only [sameG, icmp, h2, h4, h6, h8, h12, h14, h16, h18, h54, h59, c48, c66, c71, c76]; done) | (simp [sameG, icmp, h2, h4, h6, h8, h12, h14, h16, h18, h54, h59, c48, c66, c71, c76]; done) | (revert c48 c66 c71 c76; simp +contextual [sameG, icmp, h2, h4, h6, h8, h12, h14, h16, h18, h54, h59]; done) | (rcases c48' with hh | hh <;> simp only [hh, sameG, icmp, h2, h4, h6, h8, h12, h14, h16, h18, h54, h59, c48, c66, c71, c76]; done) | (rcases c66' with hh | hh <;> simp only [hh, sameG, icmp, h2, h4, h6, h8, h12, h14, h16, h18, h54, h59, c48, c66, c71, c76]; done) | (rcases c71' with hh | hh <;> simp only [hh, sameG, icmp, h2, h4, h6, h8, h12, h14, h16, h18, h54, h59, c48, c66, c71, c76]; done) | (rcases c76' with hh | hh <;> simp only [hh, sameG, icmp, h2, h4, h6, h8, h12, h14, h16, h18, h54, h59, c48, c66, c71, c76]; done) | (rcases c76' with hh | hh <;> simp_all [sameG, icmp]; done) | (rcases c76' with hh | hh | hh <;> simp_all [sameG, icmp]; done) | (rcases c76' with hh | hh | hh | hh <;> simp_all [sameG, icmp]; done) | (simp_all [sameG, icmp]; done) | rfl
    exact (by first | rfl | rw [x78])
  have c76' := c76
  (try simp only [icmp, Bool.and_eq_true, Bool.or_eq_true, Bool.and_eq_false_iff, Bool.or_eq_false_iff, Bool.not_eq_true', Bool.not_eq_false', decide_eq_true_eq, decide_eq_false_iff_not, beq_iff_eq, bne_iff_ne, beq_eq_false_iff_ne, bne_eq_false_iff_eq] at c76')
  refine wp_skip (hK74 _ _ ?_)
  refine wp_seq_k fun K79 hK79 => ?_
  refine wp_seq_k fun K80 hK80 => ?_
  refine wp_region_lit ?_
  refine q_is rfl rfl (does_fieldAddr (ev rfl) fa33_4) (by dsimp only [List.set]; try rfl) ?_
  refine q_is rfl rfl (does_load (u := (Iv A_a.z)) (ev rfl) Try.isAgg2 (Cells.at (Blk.cells (((((hB30.ext E38).ext E45).ext E55).ext E60).ext E63)) 6 rfl)) (by dsimp only [List.set]; try rfl) ?_
  refine q_is rfl rfl (does_fieldAddr (ev rfl) fa33_4) (by dsimp only [List.set]; try rfl) ?_
  refine q_is rfl rfl (does_load (u := (Iv A_b.z)) (ev rfl) Try.isAgg2 (Cells.at (Blk.cells ((((hB37.ext E45).ext E55).ext E60).ext E63)) 6 rfl)) (by dsimp only [List.set]; try rfl) ?_
  refine q_is rfl rfl (does_icmp (p := A_a.z) (q := A_b.z) (.inr (.inl rfl)) (ev rfl) (ev rfl)) (by dsimp only [List.set]; try rfl) ?_
  refine wpList_nil (hK80 _ _ ?_)
  refine wp_cond_split (t := icmp .neq A_a.z A_b.z) (ev rfl) (fun c81 => ?_) (fun c81 => ?_)
  · have c81' := c81
    (try simp only [icmp, Bool.and_eq_true, Bool.or_eq_true, Bool.and_eq_false_iff, Bool.or_eq_false_iff, Bool.not_eq_true', Bool.not_eq_false', decide_eq_true_eq, decide_eq_false_iff_not, beq_iff_eq, bne_iff_ne, beq_eq_false_iff_ne, bne_eq_false_iff_eq] at c81')
    refine wp_seq_k fun K82 hK82 => ?_
    refine wp_region_lit ?_
    refine q_is rfl rfl (does_assign (u := (Bo false)) (ev rfl)) (by dsimp only [List.set]; try rfl) ?_
    refine wpList_nil (hK82 _ _ ?_)
    refine wp_ret ?_
    dsimp only [Exit.then, Exit.inBlock]
    refine ret_val (v := (Bo false)) (res_T rfl (slot rfl)) X65 ?_
    try simp only [h2, h4, h6, h8, h12, h14, h16, h18, h54, h59] at c48 c66 c71 c76 c81
    have x83 : (sameG A_a A_b) = false := by first | with_reducible rfl | (simp only [sameG, icmp, h2, h4, h6, h8, h12, h14, h16, h18, h54, h59, c48, c66, c71, c76, c81]; done) | (simp [sameG, icmp, h2, h4, h6, h8, h12, h14, h16, h18, h54, h59, c48, c66, c71, c76, c81]; done) | (revert c48 c66 c71 c76 c81; simp +contextual [sameG, icmp, h2, h4, h6, h8, h12, h14, h16, h18, h54, h59]; done) | (rcases c48' with hh | hh <;> simp only [hh, sameG, icmp, h2, h4, h6, h8, h12, h14, h16, h18, h54, h59, c48, c66, c71, c76, c81]; done) | (rcases c66' with hh | hh <;> simp only [hh, sameG, icmp, h2, h4, h6, h8, h12, h14, h16, h18, h54, h59, c48, c66, c71, c76, c81]; done) | (rcases c71' with hh | hh <;> simp only [hh, sameG, icmp, h2, h4, h6, h8, h12, h14, h16, h18, h54, h59, c48, c66, c71, c76, c81]; done) | (rcases c76' with hh | hh <;> simp only [hh, sameG, icmp, h2, h4, h6, h8, h12, h14, h16, h18, h54, h59, c48, c66, c71, c76, c81]; done) | (rcases c81' with hh | hh <;> simp only [hh, sameG, icmp, h2, h4, h6, h8, h12, h14, h16, h18, h54, h59, c48, c66, c71, c76, c81]; done) | (rcases c81' with hh | hh <;> simp_all [sameG, icmp]; done) | (rcases c81' with hh | hh | hh <;> simp_all [sameG, icmp]; done) | (rcases c81' with hh | hh | hh | hh <;> simp_all [sameG, icmp]; done) | (simp_all [sameG, icmp]; done) | rfl
    exact (by first | rfl | rw [x83])
  have c81' := c81
  (try simp only [icmp, Bool.and_eq_true, Bool.or_eq_true, Bool.and_eq_false_iff, Bool.or_eq_false_iff, Bool.not_eq_true', Bool.not_eq_false', decide_eq_true_eq, decide_eq_false_iff_not, beq_iff_eq, bne_iff_ne, beq_eq_false_iff_ne, bne_eq_false_iff_eq] at c81')
  refine wp_skip (hK79 _ _ ?_)
  refine wp_seq_k fun K84 hK84 => ?_
  refine wp_seq_k fun K85 hK85 => ?_
  refine wp_region_lit ?_
  refine q_is rfl rfl (does_fieldAddr (ev rfl) fa33_5) (by dsimp only [List.set]; try rfl) ?_
  refine q_is rfl rfl (does_load (u := (.slice p21 A_a.vals.length q22)) (ev rfl) Try.isAgg25 (Cells.at (Blk.cells (((((hB30.ext E38).ext E45).ext E55).ext E60).ext E63)) 7 rfl)) (by dsimp only [List.set]; try rfl) ?_
  refine q_is rfl rfl (does_fieldAddr (ev rfl) fa33_5) (by dsimp only [List.set]; try rfl) ?_
  refine q_is rfl rfl (does_load (u := (.slice p24 A_b.vals.length q25)) (ev rfl) Try.isAgg25 (Cells.at (Blk.cells ((((hB37.ext E45).ext E55).ext E60).ext E63)) 7 rfl)) (by dsimp only [List.set]; try rfl) ?_
  refine seqd rfl rfl (does_call (args := #[(.slice p21 A_a.vals.length q22), (.slice p24 A_b.vals.length q25)]) cal23 (evs rfl) (c_laws_eqFloat32S (.slice p21 A_a.vals.length q22) A_a.vals (.slice p24 A_b.vals.length q25) A_b.vals _ (Sl.ext hs23 RF.mono X65) (Sl.ext hs26 RF.mono X65))) ?_; rintro _ w87 ⟨E86, rfl⟩
  have X88 := Ext.gr X65 E86
  show wpList _ _ _ _ (fr [(.agg #[(Fl r1), (Fl r3), (Fl r5), (Fl r7), (Iv A_a.x), (Iv A_a.y), (Iv A_a.z), (.slice p21 A_a.vals.length q22)]), (.agg #[(Fl r11), (Fl r13), (Fl r15), (Fl r17), (Iv A_b.x), (Iv A_b.y), (Iv A_b.z), (.slice p24 A_b.vals.length q25)]), (Pt b28 0), (Pt b35 0), (Bo false), (Pt b28 0), (.agg #[(Fl r1), (Fl r3), (Fl r5)]), (Pt b35 0), (.agg #[(Fl r11), (Fl r13), (Fl r15)]), (Bo (sameV A_a.low A_b.low)), (Bo (!(sameV A_a.low A_b.low))), (Pt b28 3), (Fl r7), (Fd r53), (Pt b35 3), (Fl r17), (Fd r58), (Bo (sameF (cf .f64 r53) (cf .f64 r58))), (Bo (!(sameF (cf .f64 r53) (cf .f64 r58)))), (Pt b28 4), (Iv A_a.x), (Pt b35 4), (Iv A_b.x), (Bo (icmp .neq A_a.x A_b.x)), (Pt b28 5), (Iv A_a.y), (Pt b35 5), (Iv A_b.y), (Bo (icmp .neq A_a.y A_b.y)), (Pt b28 6), (Iv A_a.z), (Pt b35 6), (Iv A_b.z), (Bo (icmp .neq A_a.z A_b.z)), (Pt b28 7), (.slice p21 A_a.vals.length q22), (Pt b35 7), (.slice p24 A_b.vals.length q25), (Bo (sameL A_a.vals A_b.vals)), Ud]) _
  refine q_is rfl rfl (does_not (ev rfl)) (by dsimp only [List.set]; try rfl) ?_
  refine wpList_nil (hK85 _ _ ?_)
  refine wp_cond_split (t := !(sameL A_a.vals A_b.vals)) (ev rfl) (fun c89 => ?_) (fun c89 => ?_)
  · rw [Bool.not_eq_true'] at c89
    have c89' := c89
    refine wp_seq_k fun K90 hK90 => ?_
    refine wp_region_lit ?_
    refine q_is rfl rfl (does_assign (u := (Bo false)) (ev rfl)) (by dsimp only [List.set]; try rfl) ?_
    refine wpList_nil (hK90 _ _ ?_)
    refine wp_ret ?_
    dsimp only [Exit.then, Exit.inBlock]
    refine ret_val (v := (Bo false)) (res_T rfl (slot rfl)) X88 ?_
    try simp only [h2, h4, h6, h8, h12, h14, h16, h18, h54, h59] at c48 c66 c71 c76 c81 c89
    have x91 : (sameG A_a A_b) = false := by first | with_reducible rfl | (simp only [sameG, icmp, h2, h4, h6, h8, h12, h14, h16, h18, h54, h59, c48, c66, c71, c76, c81, c89]; done) | (simp [sameG, icmp, h2, h4, h6, h8, h12, h14, h16, h18, h54, h59, c48, c66, c71, c76, c81, c89]; done) | (revert c48 c66 c71 c76 c81 c89; simp +contextual [sameG, icmp, h2, h4, h6, h8, h12, h14, h16, h18, h54, h59]; done) | (rcases c48' with hh | hh <;> simp only [hh, sameG, icmp, h2, h4, h6, h8, h12, h14, h16, h18, h54, h59, c48, c66, c71, c76, c81, c89]; done) | (rcases c66' with hh | hh <;> simp only [hh, sameG, icmp, h2, h4, h6, h8, h12, h14, h16, h18, h54, h59, c48, c66, c71, c76, c81, c89]; done) | (rcases c71' with hh | hh <;> simp only [hh, sameG, icmp, h2, h4, h6, h8, h12, h14, h16, h18, h54, h59, c48, c66, c71, c76, c81, c89]; done) | (rcases c76' with hh | hh <;> simp only [hh, sameG, icmp, h2, h4, h6, h8, h12, h14, h16, h18, h54, h59, c48, c66, c71, c76, c81, c89]; done) | (rcases c81' with hh | hh <;> simp only [hh, sameG, icmp, h2, h4, h6, h8, h12, h14, h16, h18, h54, h59, c48, c66, c71, c76, c81, c89]; done) | (rcases c89' with hh | hh <;> simp only [hh, sameG, icmp, h2, h4, h6, h8, h12, h14, h16, h18, h54, h59, c48, c66, c71, c76, c81, c89]; done) | (rcases c89' with hh | hh <;> simp_all [sameG, icmp]; done) | (rcases c89' with hh | hh | hh <;> simp_all [sameG, icmp]; done) | (rcases c89' with hh | hh | hh | hh <;> simp_all [sameG, icmp]; done) | (simp_all [sameG, icmp]; done) | rfl
    exact (by first | rfl | rw [x91])
  rw [Bool.not_eq_false'] at c89
  have c89' := c89
  refine wp_skip (hK84 _ _ ?_)
  refine wp_seq_k fun K92 hK92 => ?_
  refine wp_region_lit ?_
  refine q_is rfl rfl (does_assign (u := (Bo true)) (ev rfl)) (by dsimp only [List.set]; try rfl) ?_
  refine wpList_nil (hK92 _ _ ?_)
  refine wp_ret ?_
  refine ret_val (v := (Bo true)) (res_T rfl (slot rfl)) X88 ?_
  try simp only [h2, h4, h6, h8, h12, h14, h16, h18, h54, h59] at c48 c66 c71 c76 c81 c89
  have x93 : (sameG A_a A_b) = true := by first | with_reducible rfl | (simp only [sameG, icmp, h2, h4, h6, h8, h12, h14, h16, h18, h54, h59, c48, c66, c71, c76, c81, c89]; done) | (simp [sameG, icmp, h2, h4, h6, h8, h12, h14, h16, h18, h54, h59, c48, c66, c71, c76, c81, c89]; done) | (revert c48 c66 c71 c76 c81 c89; simp +contextual [sameG, icmp, h2, h4, h6, h8, h12, h14, h16, h18, h54, h59]; done) | (rcases c48' with hh | hh <;> simp only [hh, sameG, icmp, h2, h4, h6, h8, h12, h14, h16, h18, h54, h59, c48, c66, c71, c76, c81, c89]; done) | (rcases c66' with hh | hh <;> simp only [hh, sameG, icmp, h2, h4, h6, h8, h12, h14, h16, h18, h54, h59, c48, c66, c71, c76, c81, c89]; done) | (rcases c71' with hh | hh <;> simp only [hh, sameG, icmp, h2, h4, h6, h8, h12, h14, h16, h18, h54, h59, c48, c66, c71, c76, c81, c89]; done) | (rcases c76' with hh | hh <;> simp only [hh, sameG, icmp, h2, h4, h6, h8, h12, h14, h16, h18, h54, h59, c48, c66, c71, c76, c81, c89]; done) | (rcases c81' with hh | hh <;> simp only [hh, sameG, icmp, h2, h4, h6, h8, h12, h14, h16, h18, h54, h59, c48, c66, c71, c76, c81, c89]; done) | (rcases c89' with hh | hh <;> simp only [hh, sameG, icmp, h2, h4, h6, h8, h12, h14, h16, h18, h54, h59, c48, c66, c71, c76, c81, c89]; done) | (rcases c89' with hh | hh <;> simp_all [sameG, icmp]; done) | (rcases c89' with hh | hh | hh <;> simp_all [sameG, icmp]; done) | (rcases c89' with hh | hh | hh | hh <;> simp_all [sameG, icmp]; done) | (simp_all [sameG, icmp]; done) | rfl
  exact (by first | rfl | rw [x93])

/- laws.FnExactValueBetween -/
theorem c_laws_FnExactValueBetween (g : List Value) (A_g : GridT) (p : List Value) (A_p : V3) (w : World) (hv_g : RGridT w A_g g) (hv_p : RV3 w A_p p) : Gives Try.prog 3 #[(.agg g.toArray), (.agg p.toArray)] w (fun v w' => v = (Bo true)) := by
  obtain ⟨r1, r3, r5, r7, y9, rfl, h2, h4, h6, h8, h10⟩ := hv_g
  obtain ⟨r11, r13, r15, rfl, h12, h14, h16⟩ := hv_p
  have hs19 := h10; have hs19l := Sl.len h10; obtain ⟨p17, q18, rfl⟩ := Sl.shape h10
  refine enter [(.agg #[(Fl r1), (Fl r3), (Fl r5), (Fl r7), (Iv A_g.x), (Iv A_g.y), (Iv A_g.z), (.slice p17 A_g.vals.length q18)]), (.agg #[(Fl r11), (Fl r13), (Fl r15)]), Ud, Ud, Ud, Ud, Ud, Ud, Ud, Ud, Ud, Ud, Ud, Ud, Ud, Ud, Ud, Ud, Ud, Ud, Ud, Ud, Ud, Ud, Ud, Ud, Ud, Ud, Ud, Ud, Ud, Ud, Ud, Ud, Ud, Ud, Ud, Ud, Ud, Ud, Ud, Ud, Ud, Ud, Ud, Ud, Ud, Ud, Ud] Try.func3 rfl Try.ntmps3 rfl ?_
  refine wp_seq_k fun K20 hK20 => ?_
  refine wp_region_lit ?_
  refine seqd rfl rfl (does_box (u := (.agg #[(Fl r1), (Fl r3), (Fl r5), (Fl r7), (Iv A_g.x), (Iv A_g.y), (Iv A_g.z), (.slice p17 A_g.vals.length q18)])) (ev rfl)) ?_; rintro _ w25 ⟨b21, rfl, hb22, hB23, E24⟩
  have g26 : w.heap.size ≤ b21 := Nat.le_trans (Below.size (Ext.refl w)) hb22
  change Blk _ _ [(Fl r1), (Fl r3), (Fl r5), (Fl r7), (Iv A_g.x), (Iv A_g.y), (Iv A_g.z), (.slice p17 A_g.vals.length q18)] at hB23
  have X27 := Ext.gr (Ext.refl w) E24
  show wpList _ _ _ _ (fr [(.agg #[(Fl r1), (Fl r3), (Fl r5), (Fl r7), (Iv A_g.x), (Iv A_g.y), (Iv A_g.z), (.slice p17 A_g.vals.length q18)]), (.agg #[(Fl r11), (Fl r13), (Fl r15)]), (Pt b21 0), Ud, Ud, Ud, Ud, Ud, Ud, Ud, Ud, Ud, Ud, Ud, Ud, Ud, Ud, Ud, Ud, Ud, Ud, Ud, Ud, Ud, Ud, Ud, Ud, Ud, Ud, Ud, Ud, Ud, Ud, Ud, Ud, Ud, Ud, Ud, Ud, Ud, Ud, Ud, Ud, Ud, Ud, Ud, Ud, Ud, Ud]) _
  refine seqd rfl rfl (does_box (u := (.agg #[(Fl r11), (Fl r13), (Fl r15)])) (ev rfl)) ?_; rintro _ w32 ⟨b28, rfl, hb29, hB30, E31⟩
  have n33 : b21 < b28 := Nat.lt_of_lt_of_le (Blk.lt hB23) hb29
  have g34 : w.heap.size ≤ b28 := Nat.le_trans (Below.size X27) hb29
  change Blk _ _ [(Fl r11), (Fl r13), (Fl r15)] at hB30
  have X35 := Ext.gr X27 E31
  show wpList _ _ _ _ (fr [(.agg #[(Fl r1), (Fl r3), (Fl r5), (Fl r7), (Iv A_g.x), (Iv A_g.y), (Iv A_g.z), (.slice p17 A_g.vals.length q18)]), (.agg #[(Fl r11), (Fl r13), (Fl r15)]), (Pt b21 0), (Pt b28 0), Ud, Ud, Ud, Ud, Ud, Ud, Ud, Ud, Ud, Ud, Ud, Ud, Ud, Ud, Ud, Ud, Ud, Ud, Ud, Ud, Ud, Ud, Ud, Ud, Ud, Ud, Ud, Ud, Ud, Ud, Ud, Ud, Ud, Ud, Ud, Ud, Ud, Ud, Ud, Ud, Ud, Ud, Ud, Ud, Ud]) _
  refine q_is rfl rfl (does_assign (u := (Bo false)) (ev rfl)) (by dsimp only [List.set]; try rfl) ?_
  refine wpList_nil (hK20 _ _ ?_)
  refine wp_seq_k fun K36 hK36 => ?_
  refine wp_region_lit ?_
  refine q_is rfl rfl (does_assign (u := (Iv 1048576)) (ev rfl)) (by dsimp only [List.set]; try rfl) ?_
  refine wpList_nil (hK36 _ _ ?_)
  refine wp_seq_k fun K37 hK37 => ?_
  refine wp_region_lit ?_
  refine q_is rfl rfl (does_loadAgg (cs := [(Fl r1), (Fl r3), (Fl r5), (Fl r7), (Iv A_g.x), (Iv A_g.y), (Iv A_g.z), (.slice p17 A_g.vals.length q18)]) (ev rfl) Try.isAgg27 Try.sizeOf27 (Blk.cells (hB23.ext E31)) rfl) (by dsimp only [List.set]; try rfl) ?_
  refine q_is rfl rfl (does_move (u := (Iv 1048576)) (ev rfl)) (by dsimp only [List.set]; try rfl) ?_
  refine seqd rfl rfl (does_call (args := #[(.agg #[(Fl r1), (Fl r3), (Fl r5), (Fl r7), (Iv A_g.x), (Iv A_g.y), (Iv A_g.z), (.slice p17 A_g.vals.length q18)]), (Iv 1048576)]) cal5 (evs rfl) (c_laws_szGrid [(Fl r1), (Fl r3), (Fl r5), (Fl r7), (Iv A_g.x), (Iv A_g.y), (Iv A_g.z), (.slice p17 A_g.vals.length q18)] A_g 1048576 _ ⟨r1, r3, r5, r7, (.slice p17 A_g.vals.length q18), rfl, h2, h4, h6, h8, (Sl.ext hs19 RF.mono X35)⟩ (by omega) (by omega))) ?_; rintro _ w39 ⟨E38, ⟨i40, rfl, h41⟩⟩
  have X42 := Ext.gr X35 E38
  show wpList _ _ _ _ (fr [(.agg #[(Fl r1), (Fl r3), (Fl r5), (Fl r7), (Iv A_g.x), (Iv A_g.y), (Iv A_g.z), (.slice p17 A_g.vals.length q18)]), (.agg #[(Fl r11), (Fl r13), (Fl r15)]), (Pt b21 0), (Pt b28 0), (Bo false), (Iv 1048576), Ud, Ud, Ud, Ud, Ud, (.agg #[(Fl r1), (Fl r3), (Fl r5), (Fl r7), (Iv A_g.x), (Iv A_g.y), (Iv A_g.z), (.slice p17 A_g.vals.length q18)]), (Iv 1048576), (Iv i40), Ud, Ud, Ud, Ud, Ud, Ud, Ud, Ud, Ud, Ud, Ud, Ud, Ud, Ud, Ud, Ud, Ud, Ud, Ud, Ud, Ud, Ud, Ud, Ud, Ud, Ud, Ud, Ud, Ud, Ud, Ud, Ud, Ud, Ud, Ud]) _
  refine q_is rfl rfl (does_assign (u := (Iv i40)) (ev rfl)) (by dsimp only [List.set]; try rfl) ?_
  refine wpList_nil (hK37 _ _ ?_)
  refine wp_seq_k fun K43 hK43 => ?_
  refine wp_seq_k fun K44 hK44 => ?_
  refine wp_region_lit ?_
  refine q_is rfl rfl (does_move (u := (Iv i40)) (ev rfl)) (by dsimp only [List.set]; try rfl) ?_
  refine q_is rfl rfl (does_icmp (p := i40) (q := 0) (.inr (.inr (.inl rfl))) (ev rfl) (ev rfl)) (by dsimp only [List.set]; try rfl) ?_
  refine wpList_nil (hK44 _ _ ?_)
  refine wp_cond_split (t := icmp .lss i40 0) (ev rfl) (fun c45 => ?_) (fun c45 => ?_)
  · have c45' := c45
    (try simp only [icmp, Bool.and_eq_true, Bool.or_eq_true, Bool.and_eq_false_iff, Bool.or_eq_false_iff, Bool.not_eq_true', Bool.not_eq_false', decide_eq_true_eq, decide_eq_false_iff_not, beq_iff_eq, bne_iff_ne, beq_eq_false_iff_ne, bne_eq_false_iff_eq] at c45')
    refine wp_seq_k fun K46 hK46 => ?_
    refine wp_region_lit ?_
    refine q_is rfl rfl (does_assign (u := (Bo true)) (ev rfl)) (by dsimp only [List.set]; try rfl) ?_
    refine wpList_nil (hK46 _ _ ?_)
    refine wp_ret ?_
    dsimp only [Exit.then, Exit.inBlock]
    refine ret_val (v := (Bo true)) (res_T rfl (slot rfl)) X42 ?_
    try simp only [h2, h4, h6, h8, h12, h14, h16] at c45
    exact rfl
  have c45' := c45
  (try simp only [icmp, Bool.and_eq_true, Bool.or_eq_true, Bool.and_eq_false_iff, Bool.or_eq_false_iff, Bool.not_eq_true', Bool.not_eq_false', decide_eq_true_eq, decide_eq_false_iff_not, beq_iff_eq, bne_iff_ne, beq_eq_false_iff_ne, bne_eq_false_iff_eq] at c45')
  refine wp_skip (hK43 _ _ ?_)
  refine wp_seq_k fun K47 hK47 => ?_
  refine region_draw (
    [Fact.pure [] (fun v => v = (.agg #[(Fl r1), (Fl r3), (Fl r5), (Fl r7), (Iv A_g.x), (Iv A_g.y), (Iv A_g.z), (.slice p17 A_g.vals.length q18)])),
    Fact.mem [17] (fun v w' => ∃ cs_1 : List Value, ∃ Lw_2 : List Nat, v = (.agg cs_1.toArray) ∧ Hang w39.heap.size w' (fun u => RGridT u A_g cs_1) ∧ WL 1 w39.heap.size w' Lw_2 (cellN cs_1 7) A_g.vals.length) (by rintro v w1 w2 hx ⟨z1, z2, rfl, k0, k1⟩; exact ⟨_, _, rfl, (k0.ext hx), (k1.same (Same.of_ext hx))⟩),
    Fact.pure [] (fun v => v = (.agg #[(Fl r11), (Fl r13), (Fl r15)])),
    Fact.pure [19] (fun v => ∃ cs_1 : List Value, v = (.agg cs_1.toArray) ∧ RV3 w A_p cs_1),
    Fact.pure [18, 20] (fun v => ∃ r_1 : Nat, v = (.tuple #[(Fl r_1), (Bo (vbtOk A_g A_p))]) ∧ cf .f32 r_1 = vbtG A_g A_p),
    Fact.pure [21] (fun v => ∃ r_1 : Nat, v = (.tuple #[(Fl r_1), (Bo (vbtOk A_g A_p))]) ∧ cf .f32 r_1 = vbtG A_g A_p),
    Fact.pure [16] (fun v => ∃ r_1 : Nat, v = (Fl r_1) ∧ cf .f32 r_1 = vbtG A_g A_p),
    Fact.flt [16] (fun v => v = (Bo (vbtOk A_g A_p)))]) mixed (by kernel_rfl) (by intro _ _ d _ _ h; cases d <;> exact h) ?_
  obtain ⟨w48, hw50⟩ : ∃ w', w' = World.drew w39 := ⟨_, rfl⟩; rw [← hw50]; have E49 : Ext w39 w48 := by rw [hw50]; exact Ext.draw _
  clear hw50
  have X51 := Ext.gr X42 E49
  refine RW_d _ rfl (fun v => by dsimp only [List.set]; try rfl) (fun u hu hF => ?_) (fun v52 => ?_)
  · clear hF
    refine doesG_un rfl ?_
    refine (does_loadAgg (cs := [(Fl r1), (Fl r3), (Fl r5), (Fl r7), (Iv A_g.x), (Iv A_g.y), (Iv A_g.z), (.slice p17 A_g.vals.length q18)]) (ev rfl) Try.isAgg27 Try.sizeOf27 (Blk.cells ((((hB23.ext E31).ext E38).ext E49).ext hu)) rfl).mono ?_; rintro _ _ ⟨rfl, rfl⟩
    exact ⟨rfl, Ext.refl _⟩
  refine RW_d _ rfl (fun v => by dsimp only [List.set]; try rfl) (fun u hu hF => ?_) (fun v53 => ?_)
  · have h17_ : v52 = (.agg #[(Fl r1), (Fl r3), (Fl r5), (Fl r7), (Iv A_g.x), (Iv A_g.y), (Iv A_g.z), (.slice p17 A_g.vals.length q18)]) := hF.1
    clear hF
    refine doesG_un rfl ?_
    obtain rfl := h17_
    refine (does_call (args := #[(.agg #[(Fl r1), (Fl r3), (Fl r5), (Fl r7), (Iv A_g.x), (Iv A_g.y), (Iv A_g.z), (.slice p17 A_g.vals.length q18)])]) cal7 (evs rfl) (c_laws_toGrid [(Fl r1), (Fl r3), (Fl r5), (Fl r7), (Iv A_g.x), (Iv A_g.y), (Iv A_g.z), (.slice p17 A_g.vals.length q18)] A_g _ ⟨r1, r3, r5, r7, (.slice p17 A_g.vals.length q18), rfl, h2, h4, h6, h8, (Sl.ext (Sl.ext hs19 RF.mono (Ext.gr X42 E49)) RF.mono hu)⟩ (by omega))).mono ?_; rintro v u' ⟨hx, ⟨csn1, Lwn2, hv, k0, k1⟩⟩
    exact ⟨⟨csn1, Lwn2, hv, (Hang.le k0 (Nat.le_trans (Below.size E49) (Below.size hu))), (WL.le k1 (Nat.le_trans (Below.size E49) (Below.size hu)))⟩, hx⟩
  refine RW_d _ rfl (fun v => by dsimp only [List.set]; try rfl) (fun u hu hF => ?_) (fun v54 => ?_)
  · clear hF
    refine doesG_un rfl ?_
    refine (does_loadAgg (cs := [(Fl r11), (Fl r13), (Fl r15)]) (ev rfl) Try.isAgg24 Try.sizeOf24 (Blk.cells (((hB30.ext E38).ext E49).ext hu)) rfl).mono ?_; rintro _ _ ⟨rfl, rfl⟩
    exact ⟨rfl, Ext.refl _⟩
  refine RW_d _ rfl (fun v => by dsimp only [List.set]; try rfl) (fun u hu hF => ?_) (fun v55 => ?_)
  · have h19_ : v54 = (.agg #[(Fl r11), (Fl r13), (Fl r15)]) := hF.1
    clear hF
    refine doesG_un rfl ?_
    obtain rfl := h19_
    refine (does_call (args := #[(.agg #[(Fl r11), (Fl r13), (Fl r15)])]) cal8 (evs rfl) (c_laws_toVector [(Fl r11), (Fl r13), (Fl r15)] A_p _ ⟨r11, r13, r15, rfl, h12, h14, h16⟩)).mono ?_; rintro v u' ⟨hx, ⟨csn1, hv, k0⟩⟩
    exact ⟨⟨csn1, hv, k0⟩, hx⟩
  refine RW_d _ rfl (fun v => by dsimp only [List.set]; try rfl) (fun u hu hF => ?_) (fun v56 => ?_)
  · have h18_ : ∃ cs_1 : List Value, ∃ Lw_2 : List Nat, v53 = (.agg cs_1.toArray) ∧ Hang w39.heap.size u (fun u => RGridT u A_g cs_1) ∧ WL 1 w39.heap.size u Lw_2 (cellN cs_1 7) A_g.vals.length := hF.1
    have h20_ : ∃ cs_1 : List Value, v55 = (.agg cs_1.toArray) ∧ RV3 w A_p cs_1 := hF.2.1
    clear hF
    refine doesG_un rfl ?_
    obtain ⟨cs18_2, Lw18_3, rfl, hh18_1, hw18_4⟩ := h18_
    obtain ⟨r18_5, r18_7, r18_9, r18_11, y18_13, rfl, h18_6, h18_8, h18_10, h18_12, h18_14⟩ := hh18_1.get
    have hh18_14 := h18_14; obtain ⟨p18_15, q18_16, rfl⟩ := Sl.shape h18_14
    obtain ⟨_, rfl, ⟨r20_1, r20_3, r20_5, rfl, h20_2, h20_4, h20_6⟩⟩ := h20_
    refine (does_call (args := #[(.agg #[(Fl r18_5), (Fl r18_7), (Fl r18_9), (Fl r18_11), (Iv A_g.x), (Iv A_g.y), (Iv A_g.z), (.slice p18_15 A_g.vals.length q18_16)]), (.agg #[(Fl r20_1), (Fl r20_3), (Fl r20_5)])]) cal6 (evs rfl) (c_spec_ValueBetween [(Fl r18_5), (Fl r18_7), (Fl r18_9), (Fl r18_11), (Iv A_g.x), (Iv A_g.y), (Iv A_g.z), (.slice p18_15 A_g.vals.length q18_16)] A_g [(Fl r20_1), (Fl r20_3), (Fl r20_5)] A_p _ ⟨r18_5, r18_7, r18_9, r18_11, (.slice p18_15 A_g.vals.length q18_16), rfl, (by assumption), (by assumption), (by assumption), (by assumption), hh18_14⟩ ⟨r20_1, r20_3, r20_5, rfl, (by assumption), (by assumption), (by assumption)⟩)).mono ?_; rintro v u' ⟨hx, ⟨rn1, hv, k0⟩⟩
    exact ⟨⟨rn1, hv.trans (by simp only [h18_6, h18_8, h18_10, h18_12, h20_2, h20_4, h20_6]), (by simp only [k0, h18_6, h18_8, h18_10, h18_12, h20_2, h20_4, h20_6])⟩, hx⟩
  refine RW_d _ rfl (fun v => by dsimp only [List.set]; try rfl) (fun u hu hF => ?_) (fun v57 => ?_)
  · have h21_ : ∃ r_1 : Nat, v56 = (.tuple #[(Fl r_1), (Bo (vbtOk A_g A_p))]) ∧ cf .f32 r_1 = vbtG A_g A_p := hF.1
    clear hF
    refine doesG_un rfl ?_
    obtain ⟨r21_1, rfl, h21_2⟩ := h21_
    refine (does_move (u := (.tuple #[(Fl r21_1), (Bo (vbtOk A_g A_p))])) (ev rfl)).mono ?_; rintro _ _ ⟨rfl, rfl⟩
    exact ⟨⟨r21_1, rfl, (by simp only [h21_2])⟩, Ext.refl _⟩
  refine RW_d _ rfl (fun v => by dsimp only [List.set]; try rfl) (fun u hu hF => ?_) (fun v58 => ?_)
  · have h16_ : ∃ r_1 : Nat, v57 = (.tuple #[(Fl r_1), (Bo (vbtOk A_g A_p))]) ∧ cf .f32 r_1 = vbtG A_g A_p := hF.1
    clear hF
    refine doesG_un rfl ?_
    obtain ⟨r16_1, rfl, h16_2⟩ := h16_
    refine (does_extract (vs := #[(Fl r16_1), (Bo (vbtOk A_g A_p))]) (u := (Fl r16_1)) (ev rfl) rfl).mono ?_; rintro _ _ ⟨rfl, rfl⟩
    exact ⟨⟨r16_1, rfl, (by simp only [h16_2])⟩, Ext.refl _⟩
  refine RW_d _ rfl (fun v => by dsimp only [List.set]; try rfl) (fun u hu hF => ?_) (fun v59 => ?_)
  · have h16_ : ∃ r_1 : Nat, v57 = (.tuple #[(Fl r_1), (Bo (vbtOk A_g A_p))]) ∧ cf .f32 r_1 = vbtG A_g A_p := hF.1
    clear hF
    obtain ⟨r16_1, rfl, h16_2⟩ := h16_
    exact ⟨_, yields_is rfl (run_extract (ev rfl) rfl), (by first | rfl | (show _ = _; simp only [h16_2]))⟩
  refine RW_fin ?_; intro w60 E61 hP62
  obtain ⟨⟨⟨⟨⟨⟨⟨⟨-, -⟩, -⟩, -⟩, -⟩, -⟩, -⟩, q63⟩, q64⟩ := hP62
  have X65 := Ext.gr X51 E61
  have q63 : ∃ r_1 : Nat, v58 = (Fl r_1) ∧ cf .f32 r_1 = vbtG A_g A_p := q63
  obtain ⟨r66, rfl, h67⟩ := q63
  have q64 : v59 = (Bo (vbtOk A_g A_p)) := q64
  obtain rfl := q64
  show wpList _ _ _ _ (fr [(.agg #[(Fl r1), (Fl r3), (Fl r5), (Fl r7), (Iv A_g.x), (Iv A_g.y), (Iv A_g.z), (.slice p17 A_g.vals.length q18)]), (.agg #[(Fl r11), (Fl r13), (Fl r15)]), (Pt b21 0), (Pt b28 0), (Bo false), (Iv i40), Ud, Ud, Ud, Ud, Ud, (.agg #[(Fl r1), (Fl r3), (Fl r5), (Fl r7), (Iv A_g.x), (Iv A_g.y), (Iv A_g.z), (.slice p17 A_g.vals.length q18)]), (Iv 1048576), (Iv i40), (Iv i40), (Bo (icmp .lss i40 0)), v57, v52, v53, v54, v55, v56, (Fl r66), (Bo (vbtOk A_g A_p)), Ud, Ud, Ud, Ud, Ud, Ud, Ud, Ud, Ud, Ud, Ud, Ud, Ud, Ud, Ud, Ud, Ud, Ud, Ud, Ud, Ud, Ud, Ud, Ud, Ud]) _
  refine q_is rfl rfl (does_assign (u := (Fl r66)) (ev rfl)) (by dsimp only [List.set]; try rfl) ?_
  refine q_is rfl rfl (does_assign (u := (Bo (vbtOk A_g A_p))) (ev rfl)) (by dsimp only [List.set]; try rfl) ?_
  refine wpList_nil (hK47 _ _ ?_)
  refine wp_seq_k fun K68 hK68 => ?_
  refine wp_region_lit ?_
  refine q_is rfl rfl (does_loadAgg (cs := [(Fl r1), (Fl r3), (Fl r5), (Fl r7), (Iv A_g.x), (Iv A_g.y), (Iv A_g.z), (.slice p17 A_g.vals.length q18)]) (ev rfl) Try.isAgg27 Try.sizeOf27 (Blk.cells ((((hB23.ext E31).ext E38).ext E49).ext E61)) rfl) (by dsimp only [List.set]; try rfl) ?_
  refine seqd rfl rfl (does_call (args := #[(.agg #[(Fl r1), (Fl r3), (Fl r5), (Fl r7), (Iv A_g.x), (Iv A_g.y), (Iv A_g.z), (.slice p17 A_g.vals.length q18)])]) cal7 (evs rfl) (c_laws_toGrid [(Fl r1), (Fl r3), (Fl r5), (Fl r7), (Iv A_g.x), (Iv A_g.y), (Iv A_g.z), (.slice p17 A_g.vals.length q18)] A_g _ ⟨r1, r3, r5, r7, (.slice p17 A_g.vals.length q18), rfl, h2, h4, h6, h8, (Sl.ext hs19 RF.mono X65)⟩ (by omega))) ?_; rintro _ w70 ⟨E69, ⟨cs72, Lw73, rfl, hh71, hw74⟩⟩
  have X75 := Ext.gr X65 E69
  have n76 : b21 < w60.heap.size := Blk.lt ((((hB23.ext E31).ext E38).ext E49).ext E61)
  have n77 : b28 < w60.heap.size := Blk.lt (((hB30.ext E38).ext E49).ext E61)
  obtain ⟨r78, r80, r82, r84, y86, rfl, h79, h81, h83, h85, h87⟩ := hh71.get
  have h87l := Sl.len h87; obtain ⟨p88, q89, rfl⟩ := Sl.shape h87
  have hh90 : Hang w60.heap.size w70 (fun u => Sl RF 1 u (.slice p88 A_g.vals.length q89) A_g.vals) := fun u hu => by obtain ⟨_, _, _, _, _, hq, _, _, _, _, _⟩ := hh71 u hu; cases hq; assumption
  have hw91 : WL 1 w60.heap.size w70 Lw73 (.slice p88 A_g.vals.length q89) A_g.vals.length := hw74
  show wpList _ _ _ _ (fr [(.agg #[(Fl r1), (Fl r3), (Fl r5), (Fl r7), (Iv A_g.x), (Iv A_g.y), (Iv A_g.z), (.slice p17 A_g.vals.length q18)]), (.agg #[(Fl r11), (Fl r13), (Fl r15)]), (Pt b21 0), (Pt b28 0), (Bo false), (Iv i40), (Fl r66), (Bo (vbtOk A_g A_p)), Ud, Ud, Ud, (.agg #[(Fl r1), (Fl r3), (Fl r5), (Fl r7), (Iv A_g.x), (Iv A_g.y), (Iv A_g.z), (.slice p17 A_g.vals.length q18)]), (Iv 1048576), (Iv i40), (Iv i40), (Bo (icmp .lss i40 0)), v57, v52, v53, v54, v55, v56, (Fl r66), (Bo (vbtOk A_g A_p)), (.agg #[(Fl r1), (Fl r3), (Fl r5), (Fl r7), (Iv A_g.x), (Iv A_g.y), (Iv A_g.z), (.slice p17 A_g.vals.length q18)]), (.agg #[(Fl r78), (Fl r80), (Fl r82), (Fl r84), (Iv A_g.x), (Iv A_g.y), (Iv A_g.z), (.slice p88 A_g.vals.length q89)]), Ud, Ud, Ud, Ud, Ud, Ud, Ud, Ud, Ud, Ud, Ud, Ud, Ud, Ud, Ud, Ud, Ud, Ud, Ud, Ud, Ud, Ud, Ud]) _
  refine seqd rfl rfl (does_alloc z33) ?_; rintro _ w96 ⟨b92, rfl, hb93, hB94, E95⟩
  have n97 : b21 < b92 := Nat.lt_of_lt_of_le (Blk.lt (((((hB23.ext E31).ext E38).ext E49).ext E61).ext E69)) hb93
  have n98 : b28 < b92 := Nat.lt_of_lt_of_le (Blk.lt ((((hB30.ext E38).ext E49).ext E61).ext E69)) hb93
  have g99 : w.heap.size ≤ b92 := Nat.le_trans (Below.size X75) hb93
  change Blk _ _ [(Fl 0), (Fl 0), (Fl 0), (Fl 0), (Iv 0), (Iv 0), (Iv 0), (.slice none 0 0)] at hB94
  have X100 := Ext.gr X75 E95
  show wpList _ _ _ _ (fr [(.agg #[(Fl r1), (Fl r3), (Fl r5), (Fl r7), (Iv A_g.x), (Iv A_g.y), (Iv A_g.z), (.slice p17 A_g.vals.length q18)]), (.agg #[(Fl r11), (Fl r13), (Fl r15)]), (Pt b21 0), (Pt b28 0), (Bo false), (Iv i40), (Fl r66), (Bo (vbtOk A_g A_p)), (Pt b92 0), Ud, Ud, (.agg #[(Fl r1), (Fl r3), (Fl r5), (Fl r7), (Iv A_g.x), (Iv A_g.y), (Iv A_g.z), (.slice p17 A_g.vals.length q18)]), (Iv 1048576), (Iv i40), (Iv i40), (Bo (icmp .lss i40 0)), v57, v52, v53, v54, v55, v56, (Fl r66), (Bo (vbtOk A_g A_p)), (.agg #[(Fl r1), (Fl r3), (Fl r5), (Fl r7), (Iv A_g.x), (Iv A_g.y), (Iv A_g.z), (.slice p17 A_g.vals.length q18)]), (.agg #[(Fl r78), (Fl r80), (Fl r82), (Fl r84), (Iv A_g.x), (Iv A_g.y), (Iv A_g.z), (.slice p88 A_g.vals.length q89)]), Ud, Ud, Ud, Ud, Ud, Ud, Ud, Ud, Ud, Ud, Ud, Ud, Ud, Ud, Ud, Ud, Ud, Ud, Ud, Ud, Ud, Ud, Ud]) _
  refine seqn rfl rfl (does_store (n := 8) (cs := [(Fl 0), (Fl 0), (Fl 0), (Fl 0), (Iv 0), (Iv 0), (Iv 0), (.slice none 0 0)]) (u := (.agg #[(Fl r78), (Fl r80), (Fl r82), (Fl r84), (Iv A_g.x), (Iv A_g.y), (Iv A_g.z), (.slice p88 A_g.vals.length q89)])) (ev rfl) (ev rfl) Try.sizeOf33 rfl hB94 (Nat.le_of_ble_eq_true rfl) rfl) ?_; rintro _ w103 ⟨rfl, W101, hB102⟩
  change Blk _ _ [(Fl r78), (Fl r80), (Fl r82), (Fl r84), (Iv A_g.x), (Iv A_g.y), (Iv A_g.z), (.slice p88 A_g.vals.length q89)] at hB102
  have X104 := Below.wr X100 W101 g99
  refine wpList_nil (hK68 _ _ ?_)
  refine wp_seq_k fun K105 hK105 => ?_
  refine region_draw (
    [Fact.pure [] (fun v => v = (.agg #[(Fl r78), (Fl r80), (Fl r82), (Fl r84), (Iv A_g.x), (Iv A_g.y), (Iv A_g.z), (.slice p88 A_g.vals.length q89)])),
    Fact.pure [] (fun v => v = (.agg #[(Fl r11), (Fl r13), (Fl r15)])),
    Fact.pure [28] (fun v => ∃ cs_1 : List Value, v = (.agg cs_1.toArray) ∧ RV3 w A_p cs_1),
    Fact.pure [27, 29] (fun v => ∃ r_1 : Nat, v = (.tuple #[(Fl r_1), (Bo (vbtOk A_g A_p))]) ∧ cf .f32 r_1 = vbtG A_g A_p),
    Fact.pure [30] (fun v => ∃ r_1 : Nat, v = (.tuple #[(Fl r_1), (Bo (vbtOk A_g A_p))]) ∧ cf .f32 r_1 = vbtG A_g A_p),
    Fact.pure [26] (fun v => ∃ r_1 : Nat, v = (Fl r_1) ∧ cf .f32 r_1 = vbtG A_g A_p),
    Fact.flt [26] (fun v => v = (Bo (vbtOk A_g A_p)))]) mixed (by kernel_rfl) (by intro _ _ d _ _ h; cases d <;> exact h) ?_
  obtain ⟨w106, hw108⟩ : ∃ w', w' = World.drew w103 := ⟨_, rfl⟩; rw [← hw108]; have E107 : Ext w103 w106 := by rw [hw108]; exact Ext.draw _
  clear hw108
  have X109 := Ext.gr X104 E107
  refine RW_d _ rfl (fun v => by dsimp only [List.set]; try rfl) (fun u hu hF => ?_) (fun v110 => ?_)
  · clear hF
    refine doesG_un rfl ?_
    refine (does_loadAgg (cs := [(Fl r78), (Fl r80), (Fl r82), (Fl r84), (Iv A_g.x), (Iv A_g.y), (Iv A_g.z), (.slice p88 A_g.vals.length q89)]) (ev rfl) Try.isAgg33 Try.sizeOf33 (Blk.cells ((hB102.ext E107).ext hu)) rfl).mono ?_; rintro _ _ ⟨rfl, rfl⟩
    exact ⟨rfl, Ext.refl _⟩
  refine RW_d _ rfl (fun v => by dsimp only [List.set]; try rfl) (fun u hu hF => ?_) (fun v111 => ?_)
  · clear hF
    refine doesG_un rfl ?_
    refine (does_loadAgg (cs := [(Fl r11), (Fl r13), (Fl r15)]) (ev rfl) Try.isAgg24 Try.sizeOf24 (Blk.cells ((((((((hB30.ext E38).ext E49).ext E61).ext E69).ext E95).wr W101 (Nat.ne_of_lt n98)).ext E107).ext hu)) rfl).mono ?_; rintro _ _ ⟨rfl, rfl⟩
    exact ⟨rfl, Ext.refl _⟩
  refine RW_d _ rfl (fun v => by dsimp only [List.set]; try rfl) (fun u hu hF => ?_) (fun v112 => ?_)
  · have h28_ : v111 = (.agg #[(Fl r11), (Fl r13), (Fl r15)]) := hF.1
    clear hF
    refine doesG_un rfl ?_
    obtain rfl := h28_
    refine (does_call (args := #[(.agg #[(Fl r11), (Fl r13), (Fl r15)])]) cal8 (evs rfl) (c_laws_toVector [(Fl r11), (Fl r13), (Fl r15)] A_p _ ⟨r11, r13, r15, rfl, h12, h14, h16⟩)).mono ?_; rintro v u' ⟨hx, ⟨csn1, hv, k0⟩⟩
    exact ⟨⟨csn1, hv, k0⟩, hx⟩
  refine RW_d _ rfl (fun v => by dsimp only [List.set]; try rfl) (fun u hu hF => ?_) (fun v113 => ?_)
  · have h27_ : v110 = (.agg #[(Fl r78), (Fl r80), (Fl r82), (Fl r84), (Iv A_g.x), (Iv A_g.y), (Iv A_g.z), (.slice p88 A_g.vals.length q89)]) := hF.1
    have h29_ : ∃ cs_1 : List Value, v112 = (.agg cs_1.toArray) ∧ RV3 w A_p cs_1 := hF.2.1
    clear hF
    refine doesG_un rfl ?_
    obtain rfl := h27_
    obtain ⟨_, rfl, ⟨r29_1, r29_3, r29_5, rfl, h29_2, h29_4, h29_6⟩⟩ := h29_
    refine (does_call (args := #[(.agg #[(Fl r78), (Fl r80), (Fl r82), (Fl r84), (Iv A_g.x), (Iv A_g.y), (Iv A_g.z), (.slice p88 A_g.vals.length q89)]), (.agg #[(Fl r29_1), (Fl r29_3), (Fl r29_5)])]) cal9 (evs rfl) (c_impl_ValueBetween [(Fl r78), (Fl r80), (Fl r82), (Fl r84), (Iv A_g.x), (Iv A_g.y), (Iv A_g.z), (.slice p88 A_g.vals.length q89)] A_g [(Fl r29_1), (Fl r29_3), (Fl r29_5)] A_p _ ⟨r78, r80, r82, r84, (.slice p88 A_g.vals.length q89), rfl, h79, h81, h83, h85, (Sl.ext (hh90 _ ((((Same.refl _ _).ext E95).wr W101 (.inr (Nat.le_trans (Below.size (Ext.refl _)) hb93))).ext E107)) RF.mono hu)⟩ ⟨r29_1, r29_3, r29_5, rfl, (by assumption), (by assumption), (by assumption)⟩)).mono ?_; rintro v u' ⟨hx, ⟨rn1, hv, k0⟩⟩
    exact ⟨⟨rn1, hv.trans (by simp only [h29_2, h29_4, h29_6]), (by simp only [k0, h29_2, h29_4, h29_6])⟩, hx⟩
  refine RW_d _ rfl (fun v => by dsimp only [List.set]; try rfl) (fun u hu hF => ?_) (fun v114 => ?_)
  · have h30_ : ∃ r_1 : Nat, v113 = (.tuple #[(Fl r_1), (Bo (vbtOk A_g A_p))]) ∧ cf .f32 r_1 = vbtG A_g A_p := hF.1
    clear hF
    refine doesG_un rfl ?_
    obtain ⟨r30_1, rfl, h30_2⟩ := h30_
    refine (does_move (u := (.tuple #[(Fl r30_1), (Bo (vbtOk A_g A_p))])) (ev rfl)).mono ?_; rintro _ _ ⟨rfl, rfl⟩
    exact ⟨⟨r30_1, rfl, (by simp only [h30_2])⟩, Ext.refl _⟩
  refine RW_d _ rfl (fun v => by dsimp only [List.set]; try rfl) (fun u hu hF => ?_) (fun v115 => ?_)
  · have h26_ : ∃ r_1 : Nat, v114 = (.tuple #[(Fl r_1), (Bo (vbtOk A_g A_p))]) ∧ cf .f32 r_1 = vbtG A_g A_p := hF.1
    clear hF
    refine doesG_un rfl ?_
    obtain ⟨r26_1, rfl, h26_2⟩ := h26_
    refine (does_extract (vs := #[(Fl r26_1), (Bo (vbtOk A_g A_p))]) (u := (Fl r26_1)) (ev rfl) rfl).mono ?_; rintro _ _ ⟨rfl, rfl⟩
    exact ⟨⟨r26_1, rfl, (by simp only [h26_2])⟩, Ext.refl _⟩
  refine RW_d _ rfl (fun v => by dsimp only [List.set]; try rfl) (fun u hu hF => ?_) (fun v116 => ?_)
  · have h26_ : ∃ r_1 : Nat, v114 = (.tuple #[(Fl r_1), (Bo (vbtOk A_g A_p))]) ∧ cf .f32 r_1 = vbtG A_g A_p := hF.1
    clear hF
    obtain ⟨r26_1, rfl, h26_2⟩ := h26_
    exact ⟨_, yields_is rfl (run_extract (ev rfl) rfl), (by first | rfl | (show _ = _; simp only [h26_2]))⟩
  refine RW_fin ?_; intro w117 E118 hP119
  obtain ⟨⟨⟨⟨⟨⟨⟨-, -⟩, -⟩, -⟩, -⟩, -⟩, q120⟩, q121⟩ := hP119
  have X122 := Ext.gr X109 E118
  have q120 : ∃ r_1 : Nat, v115 = (Fl r_1) ∧ cf .f32 r_1 = vbtG A_g A_p := q120
  obtain ⟨r123, rfl, h124⟩ := q120
  have q121 : v116 = (Bo (vbtOk A_g A_p)) := q121
  obtain rfl := q121
  show wpList _ _ _ _ (fr [(.agg #[(Fl r1), (Fl r3), (Fl r5), (Fl r7), (Iv A_g.x), (Iv A_g.y), (Iv A_g.z), (.slice p17 A_g.vals.length q18)]), (.agg #[(Fl r11), (Fl r13), (Fl r15)]), (Pt b21 0), (Pt b28 0), (Bo false), (Iv i40), (Fl r66), (Bo (vbtOk A_g A_p)), (Pt b92 0), Ud, Ud, (.agg #[(Fl r1), (Fl r3), (Fl r5), (Fl r7), (Iv A_g.x), (Iv A_g.y), (Iv A_g.z), (.slice p17 A_g.vals.length q18)]), (Iv 1048576), (Iv i40), (Iv i40), (Bo (icmp .lss i40 0)), v57, v52, v53, v54, v55, v56, (Fl r66), (Bo (vbtOk A_g A_p)), (.agg #[(Fl r1), (Fl r3), (Fl r5), (Fl r7), (Iv A_g.x), (Iv A_g.y), (Iv A_g.z), (.slice p17 A_g.vals.length q18)]), (.agg #[(Fl r78), (Fl r80), (Fl r82), (Fl r84), (Iv A_g.x), (Iv A_g.y), (Iv A_g.z), (.slice p88 A_g.vals.length q89)]), v114, v110, v111, v112, v113, (Fl r123), (Bo (vbtOk A_g A_p)), Ud, Ud, Ud, Ud, Ud, Ud, Ud, Ud, Ud, Ud, Ud, Ud, Ud, Ud, Ud, Ud]) _
  refine q_is rfl rfl (does_assign (u := (Fl r123)) (ev rfl)) (by dsimp only [List.set]; try rfl) ?_
  refine q_is rfl rfl (does_assign (u := (Bo (vbtOk A_g A_p))) (ev rfl)) (by dsimp only [List.set]; try rfl) ?_
  refine wpList_nil (hK105 _ _ ?_)
  refine wp_seq_k fun K125 hK125 => ?_
  refine wp_seq_k fun K126 hK126 => ?_
  obtain ⟨β1, hβ1⟩ : ∃ b : Bool, b = (sameF (fwid (cf .f32 r123)) (fwid (cf .f32 r66))) := ⟨_, rfl⟩
  obtain ⟨β2, hβ2⟩ : ∃ b : Bool, b = ((vbtOk A_g A_p) != (vbtOk A_g A_p)) := ⟨_, rfl⟩
  refine region_text (
    [Fact.pure [] (fun v => v = (Fl r123)),
    Fact.pure [33] (fun v => ∃ r_1 : Nat, v = (Fd r_1) ∧ cf .f64 r_1 = fwid (cf .f32 r123)),
    Fact.pure [] (fun v => v = (Fl r66)),
    Fact.pure [35] (fun v => ∃ r_1 : Nat, v = (Fd r_1) ∧ cf .f64 r_1 = fwid (cf .f32 r66)),
    Fact.pure [34, 36] (fun v => v = (Bo β1)),
    Fact.pure [37] (fun v => v = (Bo (!β1))),
    Fact.pure [38] (fun v => v = (Bo (!β1))),
    Fact.pure [39] (fun v => (!β1) = false → v = (Bo (vbtOk A_g A_p))),
    Fact.pure [39] (fun v => (!β1) = false → v = (Bo (vbtOk A_g A_p))),
    Fact.pure [40, 41, 39] (fun v => (!β1) = false → v = (Bo β2)),
    Fact.pure [39, 42] (fun v => v = (Bo ((!β1) || β2)))]) (by simp [Fact.pure, Fact.mem]) ?_
  refine RW_d _ rfl (fun v => by dsimp only [List.set]; try rfl) (fun u hu hF => ?_) (fun v127 => ?_)
  · clear hF
    refine doesG_un rfl ?_
    refine (does_move (u := (Fl r123)) (ev rfl)).mono ?_; rintro _ _ ⟨rfl, rfl⟩
    exact ⟨rfl, Ext.refl _⟩
  refine RW_d _ rfl (fun v => by dsimp only [List.set]; try rfl) (fun u hu hF => ?_) (fun v128 => ?_)
  · have h33_ : v127 = (Fl r123) := hF.1
    clear hF
    refine doesG_un rfl ?_
    obtain rfl := h33_
    refine (does_widen Try.underlying22 Try.underlying37 (ev rfl)).mono ?_; rintro _ _ ⟨r, rfl, hr, hx⟩
    exact ⟨⟨r, rfl, (by simp only [hr])⟩, hx⟩
  refine RW_d _ rfl (fun v => by dsimp only [List.set]; try rfl) (fun u hu hF => ?_) (fun v129 => ?_)
  · clear hF
    refine doesG_un rfl ?_
    refine (does_move (u := (Fl r66)) (ev rfl)).mono ?_; rintro _ _ ⟨rfl, rfl⟩
    exact ⟨rfl, Ext.refl _⟩
  refine RW_d _ rfl (fun v => by dsimp only [List.set]; try rfl) (fun u hu hF => ?_) (fun v130 => ?_)
  · have h35_ : v129 = (Fl r66) := hF.1
    clear hF
    refine doesG_un rfl ?_
    obtain rfl := h35_
    refine (does_widen Try.underlying22 Try.underlying37 (ev rfl)).mono ?_; rintro _ _ ⟨r, rfl, hr, hx⟩
    exact ⟨⟨r, rfl, (by simp only [hr])⟩, hx⟩
  refine RW_d _ rfl (fun v => by dsimp only [List.set]; try rfl) (fun u hu hF => ?_) (fun v131 => ?_)
  · have h34_ : ∃ r_1 : Nat, v128 = (Fd r_1) ∧ cf .f64 r_1 = fwid (cf .f32 r123) := hF.1
    have h36_ : ∃ r_1 : Nat, v130 = (Fd r_1) ∧ cf .f64 r_1 = fwid (cf .f32 r66) := hF.2.1
    clear hF
    refine doesG_un rfl ?_
    obtain ⟨r34_1, rfl, h34_2⟩ := h34_
    obtain ⟨r36_1, rfl, h36_2⟩ := h36_
    refine (does_call (args := #[(Fd r34_1), (Fd r36_1)]) cal10 (evs rfl) (c_laws_sameFloat r34_1 r36_1 _)).mono ?_; rintro v u' ⟨hx, hv⟩
    exact ⟨hv.trans (by simp only [hβ1, h34_2, h36_2]), hx⟩
  refine RW_d _ rfl (fun v => by dsimp only [List.set]; try rfl) (fun u hu hF => ?_) (fun v132 => ?_)
  · have h37_ : v131 = (Bo β1) := hF.1
    clear hF
    refine doesG_un rfl ?_
    obtain rfl := h37_
    refine (does_not (ev rfl)).mono ?_; rintro _ _ ⟨rfl, rfl⟩
    exact ⟨rfl, Ext.refl _⟩
  refine RW_d _ rfl (fun v => by dsimp only [List.set]; try rfl) (fun u hu hF => ?_) (fun v133 => ?_)
  · have h38_ : v132 = (Bo (!β1)) := hF.1
    clear hF
    refine doesG_un rfl ?_
    obtain rfl := h38_
    refine (does_move (u := (Bo (!β1))) (ev rfl)).mono ?_; rintro _ _ ⟨rfl, rfl⟩
    exact ⟨rfl, Ext.refl _⟩
  refine RW_d _ rfl (fun v => by dsimp only [List.set]; try rfl) (fun u hu hF => ?_) (fun v134 => ?_)
  · have h39_ : v133 = (Bo (!β1)) := hF.1
    clear hF
    obtain rfl := h39_
    refine doesG_g (b := (!β1)) rfl (yld rfl rfl) (fun hg1 => ?_) (fun hc => ⟨fun hg1 => absurd hg1 hc, Ext.refl _⟩)
    refine (does_move (u := (Bo (vbtOk A_g A_p))) (ev rfl)).mono ?_; rintro _ _ ⟨rfl, rfl⟩
    exact ⟨fun _ => rfl, Ext.refl _⟩
  refine RW_d _ rfl (fun v => by dsimp only [List.set]; try rfl) (fun u hu hF => ?_) (fun v135 => ?_)
  · have h39_ : v133 = (Bo (!β1)) := hF.1
    clear hF
    obtain rfl := h39_
    refine doesG_g (b := (!β1)) rfl (yld rfl rfl) (fun hg1 => ?_) (fun hc => ⟨fun hg1 => absurd hg1 hc, Ext.refl _⟩)
    refine (does_move (u := (Bo (vbtOk A_g A_p))) (ev rfl)).mono ?_; rintro _ _ ⟨rfl, rfl⟩
    exact ⟨fun _ => rfl, Ext.refl _⟩
  refine RW_d _ rfl (fun v => by dsimp only [List.set]; try rfl) (fun u hu hF => ?_) (fun v136 => ?_)
  · have h40_ : (!β1) = false → v134 = (Bo (vbtOk A_g A_p)) := hF.1
    have h41_ : (!β1) = false → v135 = (Bo (vbtOk A_g A_p)) := hF.2.1
    have h39_ : v133 = (Bo (!β1)) := hF.2.2.1
    clear hF
    obtain rfl := h39_
    refine doesG_g (b := (!β1)) rfl (yld rfl rfl) (fun hg1 => ?_) (fun hc => ⟨fun hg1 => absurd hg1 hc, Ext.refl _⟩)
    obtain rfl := h40_ hg1
    obtain rfl := h41_ hg1
    refine (does_bne (p := (vbtOk A_g A_p)) (q := (vbtOk A_g A_p)) Try.underlying4 (ev rfl) (ev rfl)).mono ?_; rintro _ _ ⟨rfl, rfl⟩
    exact ⟨fun _ => (by first | rfl | (show _ = _; simp only [hβ2])), Ext.refl _⟩
  refine RW_d _ rfl (fun v => by dsimp only [List.set]; try rfl) (fun u hu hF => ?_) (fun v137 => ?_)
  · have h39_ : v133 = (Bo (!β1)) := hF.1
    have h42_ : (!β1) = false → v136 = (Bo β2) := hF.2.1
    clear hF
    refine doesG_un rfl ?_
    skip
    obtain rfl := h39_
    refine (does_pick (b := (!β1)) (ev rfl) (ev rfl) (ev rfl)).mono ?_; rintro _ _ ⟨rfl, rfl⟩; refine ⟨?_, Ext.refl _⟩; skip
    cases hbb : (!β1) <;> simp [hbb] at h42_ ⊢
    all_goals (first | rfl | (subst h42_; rfl) | simp_all)
  refine RW_fin ?_; intro w138 E139 hP140
  obtain ⟨⟨⟨⟨⟨⟨⟨⟨⟨⟨⟨-, -⟩, -⟩, -⟩, -⟩, -⟩, -⟩, -⟩, -⟩, -⟩, -⟩, q141⟩ := hP140
  have X142 := Ext.gr X122 E139
  have q141 : v137 = (Bo ((!β1) || β2)) := q141
  obtain rfl := q141
  show wpList _ _ _ _ (fr [(.agg #[(Fl r1), (Fl r3), (Fl r5), (Fl r7), (Iv A_g.x), (Iv A_g.y), (Iv A_g.z), (.slice p17 A_g.vals.length q18)]), (.agg #[(Fl r11), (Fl r13), (Fl r15)]), (Pt b21 0), (Pt b28 0), (Bo false), (Iv i40), (Fl r66), (Bo (vbtOk A_g A_p)), (Pt b92 0), (Fl r123), (Bo (vbtOk A_g A_p)), (.agg #[(Fl r1), (Fl r3), (Fl r5), (Fl r7), (Iv A_g.x), (Iv A_g.y), (Iv A_g.z), (.slice p17 A_g.vals.length q18)]), (Iv 1048576), (Iv i40), (Iv i40), (Bo (icmp .lss i40 0)), v57, v52, v53, v54, v55, v56, (Fl r66), (Bo (vbtOk A_g A_p)), (.agg #[(Fl r1), (Fl r3), (Fl r5), (Fl r7), (Iv A_g.x), (Iv A_g.y), (Iv A_g.z), (.slice p17 A_g.vals.length q18)]), (.agg #[(Fl r78), (Fl r80), (Fl r82), (Fl r84), (Iv A_g.x), (Iv A_g.y), (Iv A_g.z), (.slice p88 A_g.vals.length q89)]), v114, v110, v111, v112, v113, (Fl r123), (Bo (vbtOk A_g A_p)), v127, v128, v129, v130, v131, v132, v133, v134, v135, v136, (Bo ((!β1) || β2)), Ud, Ud, Ud, Ud, Ud]) _
  refine wpList_nil (hK126 _ _ ?_)
  refine wp_cond_split (t := (!β1) || β2) (ev rfl) (fun c143 => ?_) (fun c143 => ?_)
  · have c143' := c143
    (try simp only [hβ1, hβ2] at c143')
    (try simp only [icmp, Bool.and_eq_true, Bool.or_eq_true, Bool.and_eq_false_iff, Bool.or_eq_false_iff, Bool.not_eq_true', Bool.not_eq_false', decide_eq_true_eq, decide_eq_false_iff_not, beq_iff_eq, bne_iff_ne, beq_eq_false_iff_ne, bne_eq_false_iff_eq] at c143')
    refine wp_seq_k fun K144 hK144 => ?_
    refine wp_region_lit ?_
    refine q_is rfl rfl (does_assign (u := (Bo false)) (ev rfl)) (by dsimp only [List.set]; try rfl) ?_
    refine wpList_nil (hK144 _ _ ?_)
    refine wp_ret ?_
    dsimp only [Exit.then, Exit.inBlock]
    refine ret_val (v := (Bo false)) (res_T rfl (slot rfl)) X142 ?_
    try simp only [h2, h4, h6, h8, h12, h14, h16, h67, h79, h81, h83, h85, h124, hβ1, hβ2] at c45 c143
    have x145 : true = false := by first | with_reducible rfl | (simp only [sameF_self, sameG_self, bne_self_eq_false, h2, h4, h6, h8, h12, h14, h16, h67, h79, h81, h83, h85, h124, hβ1, hβ2, c45, c143]; done) | (simp [sameF_self, sameG_self, bne_self_eq_false, h2, h4, h6, h8, h12, h14, h16, h67, h79, h81, h83, h85, h124, hβ1, hβ2, c45, c143]; done) | (revert c45 c143; simp +contextual [sameF_self, sameG_self, bne_self_eq_false, h2, h4, h6, h8, h12, h14, h16, h67, h79, h81, h83, h85, h124, hβ1, hβ2]; done) | (rcases c45' with hh | hh <;> simp only [hh, sameF_self, sameG_self, bne_self_eq_false, h2, h4, h6, h8, h12, h14, h16, h67, h79, h81, h83, h85, h124, hβ1, hβ2, c45, c143]; done) | (rcases c143' with hh | hh <;> simp only [hh, sameF_self, sameG_self, bne_self_eq_false, h2, h4, h6, h8, h12, h14, h16, h67, h79, h81, h83, h85, h124, hβ1, hβ2, c45, c143]; done) | (rcases c143' with hh | hh <;> simp_all [sameF_self, sameG_self, bne_self_eq_false]; done) | (rcases c143' with hh | hh | hh <;> simp_all [sameF_self, sameG_self, bne_self_eq_false]; done) | (rcases c143' with hh | hh | hh | hh <;> simp_all [sameF_self, sameG_self, bne_self_eq_false]; done) | (simp_all [sameF_self, sameG_self, bne_self_eq_false]; done) | rfl
    exact (by first | rfl | rw [x145])
  have c143' := c143
  (try simp only [hβ1, hβ2] at c143')
  (try simp only [icmp, Bool.and_eq_true, Bool.or_eq_true, Bool.and_eq_false_iff, Bool.or_eq_false_iff, Bool.not_eq_true', Bool.not_eq_false', decide_eq_true_eq, decide_eq_false_iff_not, beq_iff_eq, bne_iff_ne, beq_eq_false_iff_ne, bne_eq_false_iff_eq] at c143')
  refine wp_skip (hK125 _ _ ?_)
  refine wp_seq_k fun K146 hK146 => ?_
  refine wp_seq_k fun K147 hK147 => ?_
  refine region_draw (
    [Fact.pure [] (fun v => v = (.agg #[(Fl r78), (Fl r80), (Fl r82), (Fl r84), (Iv A_g.x), (Iv A_g.y), (Iv A_g.z), (.slice p88 A_g.vals.length q89)])),
    Fact.pure [] (fun v => v = (.agg #[(Fl r1), (Fl r3), (Fl r5), (Fl r7), (Iv A_g.x), (Iv A_g.y), (Iv A_g.z), (.slice p17 A_g.vals.length q18)])),
    Fact.mem [45] (fun v w' => ∃ cs_1 : List Value, ∃ Lw_2 : List Nat, v = (.agg cs_1.toArray) ∧ Hang w138.heap.size w' (fun u => RGridT u A_g cs_1) ∧ WL 1 w138.heap.size w' Lw_2 (cellN cs_1 7) A_g.vals.length) (by rintro v w1 w2 hx ⟨z1, z2, rfl, k0, k1⟩; exact ⟨_, _, rfl, (k0.ext hx), (k1.same (Same.of_ext hx))⟩),
    Fact.pure [44, 46] (fun v => v = (Bo (sameG A_g A_g))),
    Fact.pure [47] (fun v => v = (Bo (!(sameG A_g A_g))))]) mixed (by kernel_rfl) (by intro _ _ d _ _ h; cases d <;> exact h) ?_
  obtain ⟨w148, hw150⟩ : ∃ w', w' = World.drew w138 := ⟨_, rfl⟩; rw [← hw150]; have E149 : Ext w138 w148 := by rw [hw150]; exact Ext.draw _
  clear hw150
  have X151 := Ext.gr X142 E149
  refine RW_d _ rfl (fun v => by dsimp only [List.set]; try rfl) (fun u hu hF => ?_) (fun v152 => ?_)
  · clear hF
    refine doesG_un rfl ?_
    refine (does_loadAgg (cs := [(Fl r78), (Fl r80), (Fl r82), (Fl r84), (Iv A_g.x), (Iv A_g.y), (Iv A_g.z), (.slice p88 A_g.vals.length q89)]) (ev rfl) Try.isAgg33 Try.sizeOf33 (Blk.cells (((((hB102.ext E107).ext E118).ext E139).ext E149).ext hu)) rfl).mono ?_; rintro _ _ ⟨rfl, rfl⟩
    exact ⟨rfl, Ext.refl _⟩
  refine RW_d _ rfl (fun v => by dsimp only [List.set]; try rfl) (fun u hu hF => ?_) (fun v153 => ?_)
  · clear hF
    refine doesG_un rfl ?_
    refine (does_loadAgg (cs := [(Fl r1), (Fl r3), (Fl r5), (Fl r7), (Iv A_g.x), (Iv A_g.y), (Iv A_g.z), (.slice p17 A_g.vals.length q18)]) (ev rfl) Try.isAgg27 Try.sizeOf27 (Blk.cells ((((((((((((hB23.ext E31).ext E38).ext E49).ext E61).ext E69).ext E95).wr W101 (Nat.ne_of_lt n97)).ext E107).ext E118).ext E139).ext E149).ext hu)) rfl).mono ?_; rintro _ _ ⟨rfl, rfl⟩
    exact ⟨rfl, Ext.refl _⟩
  refine RW_d _ rfl (fun v => by dsimp only [List.set]; try rfl) (fun u hu hF => ?_) (fun v154 => ?_)
  · have h45_ : v153 = (.agg #[(Fl r1), (Fl r3), (Fl r5), (Fl r7), (Iv A_g.x), (Iv A_g.y), (Iv A_g.z), (.slice p17 A_g.vals.length q18)]) := hF.1
    clear hF
    refine doesG_un rfl ?_
    obtain rfl := h45_
    refine (does_call (args := #[(.agg #[(Fl r1), (Fl r3), (Fl r5), (Fl r7), (Iv A_g.x), (Iv A_g.y), (Iv A_g.z), (.slice p17 A_g.vals.length q18)])]) cal7 (evs rfl) (c_laws_toGrid [(Fl r1), (Fl r3), (Fl r5), (Fl r7), (Iv A_g.x), (Iv A_g.y), (Iv A_g.z), (.slice p17 A_g.vals.length q18)] A_g _ ⟨r1, r3, r5, r7, (.slice p17 A_g.vals.length q18), rfl, h2, h4, h6, h8, (Sl.ext (Sl.ext hs19 RF.mono (Ext.gr X142 E149)) RF.mono hu)⟩ (by omega))).mono ?_; rintro v u' ⟨hx, ⟨csn1, Lwn2, hv, k0, k1⟩⟩
    exact ⟨⟨csn1, Lwn2, hv, (Hang.le k0 (Nat.le_trans (Below.size E149) (Below.size hu))), (WL.le k1 (Nat.le_trans (Below.size E149) (Below.size hu)))⟩, hx⟩
  refine RW_d _ rfl (fun v => by dsimp only [List.set]; try rfl) (fun u hu hF => ?_) (fun v155 => ?_)
  · have h44_ : v152 = (.agg #[(Fl r78), (Fl r80), (Fl r82), (Fl r84), (Iv A_g.x), (Iv A_g.y), (Iv A_g.z), (.slice p88 A_g.vals.length q89)]) := hF.1
    have h46_ : ∃ cs_1 : List Value, ∃ Lw_2 : List Nat, v154 = (.agg cs_1.toArray) ∧ Hang w138.heap.size u (fun u => RGridT u A_g cs_1) ∧ WL 1 w138.heap.size u Lw_2 (cellN cs_1 7) A_g.vals.length := hF.2.1
    clear hF
    refine doesG_un rfl ?_
    obtain rfl := h44_
    obtain ⟨cs46_2, Lw46_3, rfl, hh46_1, hw46_4⟩ := h46_
    obtain ⟨r46_5, r46_7, r46_9, r46_11, y46_13, rfl, h46_6, h46_8, h46_10, h46_12, h46_14⟩ := hh46_1.get
    have hh46_14 := h46_14; obtain ⟨p46_15, q46_16, rfl⟩ := Sl.shape h46_14
    refine (does_call (args := #[(.agg #[(Fl r78), (Fl r80), (Fl r82), (Fl r84), (Iv A_g.x), (Iv A_g.y), (Iv A_g.z), (.slice p88 A_g.vals.length q89)]), (.agg #[(Fl r46_5), (Fl r46_7), (Fl r46_9), (Fl r46_11), (Iv A_g.x), (Iv A_g.y), (Iv A_g.z), (.slice p46_15 A_g.vals.length q46_16)])]) cal11 (evs rfl) (c_laws_eqGrid [(Fl r78), (Fl r80), (Fl r82), (Fl r84), (Iv A_g.x), (Iv A_g.y), (Iv A_g.z), (.slice p88 A_g.vals.length q89)] A_g [(Fl r46_5), (Fl r46_7), (Fl r46_9), (Fl r46_11), (Iv A_g.x), (Iv A_g.y), (Iv A_g.z), (.slice p46_15 A_g.vals.length q46_16)] A_g _ ⟨r78, r80, r82, r84, (.slice p88 A_g.vals.length q89), rfl, h79, h81, h83, h85, (Sl.ext (hh90 _ (((((((Same.refl _ _).ext E95).wr W101 (.inr (Nat.le_trans (Below.size (Ext.refl _)) hb93))).ext E107).ext E118).ext E139).ext E149)) RF.mono hu)⟩ ⟨r46_5, r46_7, r46_9, r46_11, (.slice p46_15 A_g.vals.length q46_16), rfl, (by assumption), (by assumption), (by assumption), (by assumption), hh46_14⟩)).mono ?_; rintro v u' ⟨hx, hv⟩
    exact ⟨hv.trans (by simp only [h46_6, h46_8, h46_10, h46_12]), hx⟩
  refine RW_d _ rfl (fun v => by dsimp only [List.set]; try rfl) (fun u hu hF => ?_) (fun v156 => ?_)
  · have h47_ : v155 = (Bo (sameG A_g A_g)) := hF.1
    clear hF
    refine doesG_un rfl ?_
    obtain rfl := h47_
    refine (does_not (ev rfl)).mono ?_; rintro _ _ ⟨rfl, rfl⟩
    exact ⟨rfl, Ext.refl _⟩
  refine RW_fin ?_; intro w157 E158 hP159
  obtain ⟨⟨⟨⟨⟨-, -⟩, -⟩, -⟩, -⟩, q160⟩ := hP159
  have X161 := Ext.gr X151 E158
  have q160 : v156 = (Bo (!(sameG A_g A_g))) := q160
  obtain rfl := q160
  show wpList _ _ _ _ (fr [(.agg #[(Fl r1), (Fl r3), (Fl r5), (Fl r7), (Iv A_g.x), (Iv A_g.y), (Iv A_g.z), (.slice p17 A_g.vals.length q18)]), (.agg #[(Fl r11), (Fl r13), (Fl r15)]), (Pt b21 0), (Pt b28 0), (Bo false), (Iv i40), (Fl r66), (Bo (vbtOk A_g A_p)), (Pt b92 0), (Fl r123), (Bo (vbtOk A_g A_p)), (.agg #[(Fl r1), (Fl r3), (Fl r5), (Fl r7), (Iv A_g.x), (Iv A_g.y), (Iv A_g.z), (.slice p17 A_g.vals.length q18)]), (Iv 1048576), (Iv i40), (Iv i40), (Bo (icmp .lss i40 0)), v57, v52, v53, v54, v55, v56, (Fl r66), (Bo (vbtOk A_g A_p)), (.agg #[(Fl r1), (Fl r3), (Fl r5), (Fl r7), (Iv A_g.x), (Iv A_g.y), (Iv A_g.z), (.slice p17 A_g.vals.length q18)]), (.agg #[(Fl r78), (Fl r80), (Fl r82), (Fl r84), (Iv A_g.x), (Iv A_g.y), (Iv A_g.z), (.slice p88 A_g.vals.length q89)]), v114, v110, v111, v112, v113, (Fl r123), (Bo (vbtOk A_g A_p)), v127, v128, v129, v130, v131, v132, v133, v134, v135, v136, (Bo ((!β1) || β2)), v152, v153, v154, v155, (Bo (!(sameG A_g A_g)))]) _
  refine wpList_nil (hK147 _ _ ?_)
  refine wp_cond_split (t := !(sameG A_g A_g)) (ev rfl) (fun c162 => ?_) (fun c162 => ?_)
  · rw [Bool.not_eq_true'] at c162
    have c162' := c162
    (try simp only [hβ1, hβ2] at c162')
    (try simp only [icmp, Bool.and_eq_true, Bool.or_eq_true, Bool.and_eq_false_iff, Bool.or_eq_false_iff, Bool.not_eq_true', Bool.not_eq_false', decide_eq_true_eq, decide_eq_false_iff_not, beq_iff_eq, bne_iff_ne, beq_eq_false_iff_ne, bne_eq_false_iff_eq] at c162')
    refine wp_seq_k fun K163 hK163 => ?_
    refine wp_region_lit ?_
    refine q_is rfl rfl (does_assign (u := (Bo false)) (ev rfl)) (by dsimp only [List.set]; try rfl) ?_
    refine wpList_nil (hK163 _ _ ?_)
    refine wp_ret ?_
    dsimp only [Exit.then, Exit.inBlock]
    refine ret_val (v := (Bo false)) (res_T rfl (slot rfl)) X161 ?_
    try simp only [h2, h4, h6, h8, h12, h14, h16, h67, h79, h81, h83, h85, h124, hβ1, hβ2] at c45 c143 c162
    have x164 : true = false := by first | with_reducible rfl | (simp only [sameF_self, sameG_self, bne_self_eq_false, h2, h4, h6, h8, h12, h14, h16, h67, h79, h81, h83, h85, h124, hβ1, hβ2, c45, c143, c162]; done) | (simp [sameF_self, sameG_self, bne_self_eq_false, h2, h4, h6, h8, h12, h14, h16, h67, h79, h81, h83, h85, h124, hβ1, hβ2, c45, c143, c162]; done) | (revert c45 c143 c162; simp +contextual [sameF_self, sameG_self, bne_self_eq_false, h2, h4, h6, h8, h12, h14, h16, h67, h79, h81, h83, h85, h124, hβ1, hβ2]; done) | (rcases c45' with hh | hh <;> simp only [hh, sameF_self, sameG_self, bne_self_eq_false, h2, h4, h6, h8, h12, h14, h16, h67, h79, h81, h83, h85, h124, hβ1, hβ2, c45, c143, c162]; done) | (rcases c143' with hh | hh <;> simp only [hh, sameF_self, sameG_self, bne_self_eq_false, h2, h4, h6, h8, h12, h14, h16, h67, h79, h81, h83, h85, h124, hβ1, hβ2, c45, c143, c162]; done) | (rcases c162' with hh | hh <;> simp only [hh, sameF_self, sameG_self, bne_self_eq_false, h2, h4, h6, h8, h12, h14, h16, h67, h79, h81, h83, h85, h124, hβ1, hβ2, c45, c143, c162]; done) | (rcases c162' with hh | hh <;> simp_all [sameF_self, sameG_self, bne_self_eq_false]; done) | (rcases c162' with hh | hh | hh <;> simp_all [sameF_self, sameG_self, bne_self_eq_false]; done) | (rcases c162' with hh | hh | hh | hh <;> simp_all [sameF_self, sameG_self, bne_self_eq_false]; done) | (simp_all [sameF_self, sameG_self, bne_self_eq_false]; done) | rfl
    exact (by first | rfl | rw [x164])
  rw [Bool.not_eq_false'] at c162
  have c162' := c162
  (try simp only [hβ1, hβ2] at c162')
  (try simp only [icmp, Bool.and_eq_true, Bool.or_eq_true, Bool.and_eq_false_iff, Bool.or_eq_false_iff, Bool.not_eq_true', Bool.not_eq_false', decide_eq_true_eq, decide_eq_false_iff_not, beq_iff_eq, bne_iff_ne, beq_eq_false_iff_ne, bne_eq_false_iff_eq] at c162')
  refine wp_skip (hK146 _ _ ?_)
  refine wp_seq_k fun K165 hK165 => ?_
  refine wp_region_lit ?_
  refine q_is rfl rfl (does_assign (u := (Bo true)) (ev rfl)) (by dsimp only [List.set]; try rfl) ?_
  refine wpList_nil (hK165 _ _ ?_)
  refine wp_ret ?_
  refine ret_val (v := (Bo true)) (res_T rfl (slot rfl)) X161 ?_
  try simp only [h2, h4, h6, h8, h12, h14, h16, h67, h79, h81, h83, h85, h124, hβ1, hβ2] at c45 c143 c162
  exact rfl

end Go.Proofs.Ytlpgjgombdcheaa
