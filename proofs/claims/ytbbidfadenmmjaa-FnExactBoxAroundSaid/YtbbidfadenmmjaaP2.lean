/- contracts of functions, each walked once -/
import Derived.Test.YtbbidfadenmmjaaP
namespace Go.Proofs.Ytbbidfadenmmjaa
open Go Go.RowKit
set_option maxRecDepth 100000
set_option maxHeartbeats 3200000
set_option linter.unusedVariables false
set_option linter.unusedSimpArgs false

/- impl.BoxAround -/
theorem c_impl_BoxAround (pts : Value) (L_pts : List V3) (w : World) (hv_pts : Sl RV3 3 w pts L_pts) : Gives Try.prog 16 #[pts] w (fun v w' => ∃ cs_1 : List Value, v = (.tuple #[(.agg cs_1.toArray), (Bo (bxOk L_pts))]) ∧ RBx w (gvA zB (bxOk L_pts) (boxTo L_pts L_pts.length)) cs_1) := by
  have hlen_pts := Sl.len hv_pts; obtain ⟨p_pts, q_pts, rfl⟩ := Sl.shape hv_pts
  refine enter [(.slice p_pts L_pts.length q_pts), Ud, Ud, Ud, Ud, Ud, Ud, Ud, Ud, Ud, Ud, Ud, Ud, Ud, Ud, Ud, Ud, Ud, Ud, Ud, Ud, Ud, Ud, Ud, Ud, Ud, Ud, Ud, Ud, Ud, Ud, Ud, Ud, Ud, Ud, Ud, Ud, Ud, Ud, Ud, Ud] Try.func16 rfl Try.ntmps16 rfl ?_
  refine wp_seq_k fun K1 hK1 => ?_
  refine wp_region_lit ?_
  refine seqd rfl rfl (does_alloc z28) ?_; rintro _ w6 ⟨b2, rfl, hb3, hB4, E5⟩
  have g7 : w.heap.size ≤ b2 := Nat.le_trans (Below.size (Ext.refl w)) hb3
  change Blk _ _ [(Fl 0), (Fl 0), (Fl 0), (Fl 0), (Fl 0), (Fl 0)] at hB4
  have X8 := Ext.gr (Ext.refl w) E5
  show wpList _ _ _ _ (fr [(.slice p_pts L_pts.length q_pts), Ud, (Pt b2 0), Ud, Ud, Ud, Ud, Ud, Ud, Ud, Ud, Ud, Ud, Ud, Ud, Ud, Ud, Ud, Ud, Ud, Ud, Ud, Ud, Ud, Ud, Ud, Ud, Ud, Ud, Ud, Ud, Ud, Ud, Ud, Ud, Ud, Ud, Ud, Ud, Ud, Ud]) _
  refine q_is (l' := [(.slice p_pts L_pts.length q_pts), Ud, (Pt b2 0), (Bo false), Ud, Ud, Ud, Ud, Ud, Ud, Ud, Ud, Ud, Ud, Ud, Ud, Ud, Ud, Ud, Ud, Ud, Ud, Ud, Ud, Ud, Ud, Ud, Ud, Ud, Ud, Ud, Ud, Ud, Ud, Ud, Ud, Ud, Ud, Ud, Ud, Ud]) rfl rfl (does_assign (u := (Bo false)) (ev rfl)) rfl ?_
  refine wpList_nil (hK1 _ _ ?_)
  refine wp_seq_k fun K9 hK9 => ?_
  refine wp_seq_k fun K10 hK10 => ?_
  refine wp_region_lit ?_
  refine q_is (l' := [(.slice p_pts L_pts.length q_pts), Ud, (Pt b2 0), (Bo false), Ud, Ud, Ud, (.slice p_pts L_pts.length q_pts), Ud, Ud, Ud, Ud, Ud, Ud, Ud, Ud, Ud, Ud, Ud, Ud, Ud, Ud, Ud, Ud, Ud, Ud, Ud, Ud, Ud, Ud, Ud, Ud, Ud, Ud, Ud, Ud, Ud, Ud, Ud, Ud, Ud]) rfl rfl (does_move (u := (.slice p_pts L_pts.length q_pts)) (ev rfl)) rfl ?_
  refine q_is (l' := [(.slice p_pts L_pts.length q_pts), Ud, (Pt b2 0), (Bo false), Ud, Ud, Ud, (.slice p_pts L_pts.length q_pts), (Iv (L_pts.length : Int)), Ud, Ud, Ud, Ud, Ud, Ud, Ud, Ud, Ud, Ud, Ud, Ud, Ud, Ud, Ud, Ud, Ud, Ud, Ud, Ud, Ud, Ud, Ud, Ud, Ud, Ud, Ud, Ud, Ud, Ud, Ud, Ud]) rfl rfl (does_len_slice Try.underlying31 (ev rfl)) rfl ?_
  refine seqd rfl rfl (does_call (args := #[(Iv (L_pts.length : Int)), (Iv 1), (Iv 256)]) cal56 (evs rfl) (c_impl_in (L_pts.length : Int) 1 256 _)) ?_; rintro _ w12 ⟨E11, rfl⟩
  have X13 := Ext.gr X8 E11
  show wpList _ _ _ _ (fr [(.slice p_pts L_pts.length q_pts), Ud, (Pt b2 0), (Bo false), Ud, Ud, Ud, (.slice p_pts L_pts.length q_pts), (Iv (L_pts.length : Int)), (Bo (inI (L_pts.length : Int) 1 256)), Ud, Ud, Ud, Ud, Ud, Ud, Ud, Ud, Ud, Ud, Ud, Ud, Ud, Ud, Ud, Ud, Ud, Ud, Ud, Ud, Ud, Ud, Ud, Ud, Ud, Ud, Ud, Ud, Ud, Ud, Ud]) _
  refine q_is (l' := [(.slice p_pts L_pts.length q_pts), Ud, (Pt b2 0), (Bo false), Ud, Ud, Ud, (.slice p_pts L_pts.length q_pts), (Iv (L_pts.length : Int)), (Bo (inI (L_pts.length : Int) 1 256)), (Bo (!(inI (L_pts.length : Int) 1 256))), Ud, Ud, Ud, Ud, Ud, Ud, Ud, Ud, Ud, Ud, Ud, Ud, Ud, Ud, Ud, Ud, Ud, Ud, Ud, Ud, Ud, Ud, Ud, Ud, Ud, Ud, Ud, Ud, Ud, Ud]) rfl rfl (does_not (ev rfl)) rfl ?_
  refine wpList_nil (hK10 _ _ ?_)
  refine wp_cond_split (t := !(inI (L_pts.length : Int) 1 256)) (ev rfl) (fun c14 => ?_) (fun c14 => ?_)
  · rw [Bool.not_eq_true'] at c14
    have c14' := c14
    (try simp only [inI] at c14')
    (try simp only [icmp, Bool.and_eq_true, Bool.or_eq_true, Bool.and_eq_false_iff, Bool.or_eq_false_iff, Bool.not_eq_true', Bool.not_eq_false', decide_eq_true_eq, decide_eq_false_iff_not, beq_iff_eq, bne_iff_ne, beq_eq_false_iff_ne, bne_eq_false_iff_eq] at c14')
    refine wp_seq_k fun K15 hK15 => ?_
    refine wp_region_lit ?_
    refine q_is (l' := [(.slice p_pts L_pts.length q_pts), Ud, (Pt b2 0), (Bo false), Ud, Ud, Ud, (.slice p_pts L_pts.length q_pts), (Iv (L_pts.length : Int)), (Bo (inI (L_pts.length : Int) 1 256)), (Bo (!(inI (L_pts.length : Int) 1 256))), (.agg #[(Fl 0), (Fl 0), (Fl 0), (Fl 0), (Fl 0), (Fl 0)]), Ud, Ud, Ud, Ud, Ud, Ud, Ud, Ud, Ud, Ud, Ud, Ud, Ud, Ud, Ud, Ud, Ud, Ud, Ud, Ud, Ud, Ud, Ud, Ud, Ud, Ud, Ud, Ud, Ud]) rfl rfl (does_build (parts' := []) (cells := #[(Fl 0), (Fl 0), (Fl 0), (Fl 0), (Fl 0), (Fl 0)]) (evp rfl) (by kernel_rfl)) rfl ?_
    refine seqn rfl rfl (does_store (n := 6) (cs := [(Fl 0), (Fl 0), (Fl 0), (Fl 0), (Fl 0), (Fl 0)]) (u := (.agg #[(Fl 0), (Fl 0), (Fl 0), (Fl 0), (Fl 0), (Fl 0)])) (ev rfl) (ev rfl) Try.sizeOf28 rfl (hB4.ext E11) (Nat.le_of_ble_eq_true rfl) rfl) ?_; rintro _ w18 ⟨rfl, W16, hB17⟩
    change Blk _ _ [(Fl 0), (Fl 0), (Fl 0), (Fl 0), (Fl 0), (Fl 0)] at hB17
    have X19 := Below.wr X13 W16 g7
    refine q_is (l' := [(.slice p_pts L_pts.length q_pts), Ud, (Pt b2 0), (Bo false), Ud, Ud, Ud, (.slice p_pts L_pts.length q_pts), (Iv (L_pts.length : Int)), (Bo (inI (L_pts.length : Int) 1 256)), (Bo (!(inI (L_pts.length : Int) 1 256))), (.agg #[(Fl 0), (Fl 0), (Fl 0), (Fl 0), (Fl 0), (Fl 0)]), Ud, Ud, Ud, Ud, Ud, Ud, Ud, Ud, Ud, Ud, Ud, Ud, Ud, Ud, Ud, Ud, Ud, Ud, Ud, Ud, Ud, Ud, Ud, Ud, Ud, Ud, Ud, Ud, Ud]) rfl rfl (does_assign (u := (Bo false)) (ev rfl)) rfl ?_
    refine wpList_nil (hK15 _ _ ?_)
    refine wp_ret ?_
    dsimp only [Exit.then, Exit.inBlock]
    refine ret_val (v := (.tuple #[(.agg #[(Fl 0), (Fl 0), (Fl 0), (Fl 0), (Fl 0), (Fl 0)]), (Bo false)])) (res_CT rfl (slot rfl) (run_loadAgg (cs := [(Fl 0), (Fl 0), (Fl 0), (Fl 0), (Fl 0), (Fl 0)]) Try.isAgg28 Try.sizeOf28 (Blk.cells hB17) rfl) (slot rfl)) X19 ?_
    have x20 : (bxOk L_pts) = false := by first | exact bxOk_len (by assumption) | exact bxOk_len2 (by assumption) | exact bxOk_bad (by assumption) (by assumption) | exact bxOk_ok1 (by assumption) hal (by omega) | exact bxOk_ok2 (by assumption) hal (by omega) | (rw [bxOk_len (by assumption)]; simp only [gvA_f, zB, zV]; done) | (rw [bxOk_len2 (by assumption)]; simp only [gvA_f, zB, zV]; done) | (rw [bxOk_bad (by assumption) (by assumption)]; simp only [gvA_f, zB, zV]; done) | (rw [bxOk_ok1 (by assumption) hal (by omega), gvA_t, show L_pts.length = k by omega]; assumption) | (rw [bxOk_ok2 (by assumption) hal (by omega), gvA_t, show L_pts.length = k by omega]; assumption)
    have x21 : cf .f32 0 = (gvA zB (bxOk L_pts) (boxTo L_pts L_pts.length)).lo.x := by first | exact bxOk_len (by assumption) | exact bxOk_len2 (by assumption) | exact bxOk_bad (by assumption) (by assumption) | exact bxOk_ok1 (by assumption) hal (by omega) | exact bxOk_ok2 (by assumption) hal (by omega) | (rw [bxOk_len (by assumption)]; simp only [gvA_f, zB, zV]; done) | (rw [bxOk_len2 (by assumption)]; simp only [gvA_f, zB, zV]; done) | (rw [bxOk_bad (by assumption) (by assumption)]; simp only [gvA_f, zB, zV]; done) | (rw [bxOk_ok1 (by assumption) hal (by omega), gvA_t, show L_pts.length = k by omega]; assumption) | (rw [bxOk_ok2 (by assumption) hal (by omega), gvA_t, show L_pts.length = k by omega]; assumption)
    have x22 : cf .f32 0 = (gvA zB (bxOk L_pts) (boxTo L_pts L_pts.length)).lo.y := by first | exact bxOk_len (by assumption) | exact bxOk_len2 (by assumption) | exact bxOk_bad (by assumption) (by assumption) | exact bxOk_ok1 (by assumption) hal (by omega) | exact bxOk_ok2 (by assumption) hal (by omega) | (rw [bxOk_len (by assumption)]; simp only [gvA_f, zB, zV]; done) | (rw [bxOk_len2 (by assumption)]; simp only [gvA_f, zB, zV]; done) | (rw [bxOk_bad (by assumption) (by assumption)]; simp only [gvA_f, zB, zV]; done) | (rw [bxOk_ok1 (by assumption) hal (by omega), gvA_t, show L_pts.length = k by omega]; assumption) | (rw [bxOk_ok2 (by assumption) hal (by omega), gvA_t, show L_pts.length = k by omega]; assumption)
    have x23 : cf .f32 0 = (gvA zB (bxOk L_pts) (boxTo L_pts L_pts.length)).lo.z := by first | exact bxOk_len (by assumption) | exact bxOk_len2 (by assumption) | exact bxOk_bad (by assumption) (by assumption) | exact bxOk_ok1 (by assumption) hal (by omega) | exact bxOk_ok2 (by assumption) hal (by omega) | (rw [bxOk_len (by assumption)]; simp only [gvA_f, zB, zV]; done) | (rw [bxOk_len2 (by assumption)]; simp only [gvA_f, zB, zV]; done) | (rw [bxOk_bad (by assumption) (by assumption)]; simp only [gvA_f, zB, zV]; done) | (rw [bxOk_ok1 (by assumption) hal (by omega), gvA_t, show L_pts.length = k by omega]; assumption) | (rw [bxOk_ok2 (by assumption) hal (by omega), gvA_t, show L_pts.length = k by omega]; assumption)
    have x24 : cf .f32 0 = (gvA zB (bxOk L_pts) (boxTo L_pts L_pts.length)).hi.x := by first | exact bxOk_len (by assumption) | exact bxOk_len2 (by assumption) | exact bxOk_bad (by assumption) (by assumption) | exact bxOk_ok1 (by assumption) hal (by omega) | exact bxOk_ok2 (by assumption) hal (by omega) | (rw [bxOk_len (by assumption)]; simp only [gvA_f, zB, zV]; done) | (rw [bxOk_len2 (by assumption)]; simp only [gvA_f, zB, zV]; done) | (rw [bxOk_bad (by assumption) (by assumption)]; simp only [gvA_f, zB, zV]; done) | (rw [bxOk_ok1 (by assumption) hal (by omega), gvA_t, show L_pts.length = k by omega]; assumption) | (rw [bxOk_ok2 (by assumption) hal (by omega), gvA_t, show L_pts.length = k by omega]; assumption)
    have x25 : cf .f32 0 = (gvA zB (bxOk L_pts) (boxTo L_pts L_pts.length)).hi.y := by first | exact bxOk_len (by assumption) | exact bxOk_len2 (by assumption) | exact bxOk_bad (by assumption) (by assumption) | exact bxOk_ok1 (by assumption) hal (by omega) | exact bxOk_ok2 (by assumption) hal (by omega) | (rw [bxOk_len (by assumption)]; simp only [gvA_f, zB, zV]; done) | (rw [bxOk_len2 (by assumption)]; simp only [gvA_f, zB, zV]; done) | (rw [bxOk_bad (by assumption) (by assumption)]; simp only [gvA_f, zB, zV]; done) | (rw [bxOk_ok1 (by assumption) hal (by omega), gvA_t, show L_pts.length = k by omega]; assumption) | (rw [bxOk_ok2 (by assumption) hal (by omega), gvA_t, show L_pts.length = k by omega]; assumption)
    have x26 : cf .f32 0 = (gvA zB (bxOk L_pts) (boxTo L_pts L_pts.length)).hi.z := by first | exact bxOk_len (by assumption) | exact bxOk_len2 (by assumption) | exact bxOk_bad (by assumption) (by assumption) | exact bxOk_ok1 (by assumption) hal (by omega) | exact bxOk_ok2 (by assumption) hal (by omega) | (rw [bxOk_len (by assumption)]; simp only [gvA_f, zB, zV]; done) | (rw [bxOk_len2 (by assumption)]; simp only [gvA_f, zB, zV]; done) | (rw [bxOk_bad (by assumption) (by assumption)]; simp only [gvA_f, zB, zV]; done) | (rw [bxOk_ok1 (by assumption) hal (by omega), gvA_t, show L_pts.length = k by omega]; assumption) | (rw [bxOk_ok2 (by assumption) hal (by omega), gvA_t, show L_pts.length = k by omega]; assumption)
    exact ⟨[(Fl 0), (Fl 0), (Fl 0), (Fl 0), (Fl 0), (Fl 0)], (by first | rfl | rw [x20]), ⟨0, 0, 0, 0, 0, 0, rfl, x21, x22, x23, x24, x25, x26⟩⟩
  rw [Bool.not_eq_false'] at c14
  have c14' := c14
  (try simp only [inI] at c14')
  (try simp only [icmp, Bool.and_eq_true, Bool.or_eq_true, Bool.and_eq_false_iff, Bool.or_eq_false_iff, Bool.not_eq_true', Bool.not_eq_false', decide_eq_true_eq, decide_eq_false_iff_not, beq_iff_eq, bne_iff_ne, beq_eq_false_iff_ne, bne_eq_false_iff_eq] at c14')
  refine wp_skip (hK9 _ _ ?_)
  refine wp_seq_k fun K27 hK27 => ?_
  obtain ⟨el1, hel1⟩ : ∃ e, L_pts[0]? = some e := ⟨_, List.getElem?_eq_getElem (by omega)⟩
  refine region_draw (
    [Fact.pure [] (fun v => v = (.slice p_pts L_pts.length q_pts)),
    Fact.mem [12] (fun v w' => PtrR RV3 w' v el1) (by intro v w1 w2 hx h; exact h.ext RV3.mono hx),
    Fact.pure [13] (fun v => ∃ cs_1 : List Value, v = (.agg cs_1.toArray) ∧ RV3 w el1 cs_1),
    Fact.pure [] (fun v => v = (.slice p_pts L_pts.length q_pts)),
    Fact.mem [15] (fun v w' => PtrR RV3 w' v el1) (by intro v w1 w2 hx h; exact h.ext RV3.mono hx),
    Fact.pure [16] (fun v => ∃ cs_1 : List Value, v = (.agg cs_1.toArray) ∧ RV3 w el1 cs_1),
    Fact.pure [14, 17] (fun v => ∃ r_1 : Nat, ∃ r_2 : Nat, ∃ r_3 : Nat, ∃ r_4 : Nat, ∃ r_5 : Nat, ∃ r_6 : Nat, v = (.agg #[(Fl r_1), (Fl r_2), (Fl r_3), (Fl r_4), (Fl r_5), (Fl r_6)]) ∧ cf .f32 r_1 = el1.x ∧ cf .f32 r_2 = el1.y ∧ cf .f32 r_3 = el1.z ∧ cf .f32 r_4 = el1.x ∧ cf .f32 r_5 = el1.y ∧ cf .f32 r_6 = el1.z),
    Fact.mem [] (fun v w' => ∃ b : Nat, v = .pointer (some ⟨b, 0, none⟩) ∧ w12.heap.size ≤ b ∧ Blk w' b [(Fl 0), (Fl 0), (Fl 0), (Fl 0), (Fl 0), (Fl 0)]) (by rintro v w1 w2 hx ⟨b, rfl, hb, hB⟩; exact ⟨b, rfl, hb, (hB.ext hx)⟩)]) mixed (by kernel_rfl) (by intro _ _ d _ _ h; cases d <;> exact h) ?_
  obtain ⟨w28, hw30⟩ : ∃ w', w' = World.drew w12 := ⟨_, rfl⟩; rw [← hw30]; have E29 : Ext w12 w28 := by rw [hw30]; exact Ext.draw _
  clear hw30
  have X31 := Ext.gr X13 E29
  refine RW_d (fun v32 => [(.slice p_pts L_pts.length q_pts), Ud, (Pt b2 0), (Bo false), Ud, Ud, Ud, (.slice p_pts L_pts.length q_pts), (Iv (L_pts.length : Int)), (Bo (inI (L_pts.length : Int) 1 256)), (Bo (!(inI (L_pts.length : Int) 1 256))), Ud, v32, Ud, Ud, Ud, Ud, Ud, Ud, Ud, Ud, Ud, Ud, Ud, Ud, Ud, Ud, Ud, Ud, Ud, Ud, Ud, Ud, Ud, Ud, Ud, Ud, Ud, Ud, Ud, Ud]) rfl (fun _ => rfl) (fun u hu hF => ?_) (fun v32 => ?_)
  · clear hF
    refine doesG_un rfl ?_
    refine (does_move (u := (.slice p_pts L_pts.length q_pts)) (ev rfl)).mono ?_; rintro _ _ ⟨rfl, rfl⟩
    exact ⟨rfl, Ext.refl _⟩
  refine RW_d (fun v33 => [(.slice p_pts L_pts.length q_pts), Ud, (Pt b2 0), (Bo false), Ud, Ud, Ud, (.slice p_pts L_pts.length q_pts), (Iv (L_pts.length : Int)), (Bo (inI (L_pts.length : Int) 1 256)), (Bo (!(inI (L_pts.length : Int) 1 256))), Ud, v32, v33, Ud, Ud, Ud, Ud, Ud, Ud, Ud, Ud, Ud, Ud, Ud, Ud, Ud, Ud, Ud, Ud, Ud, Ud, Ud, Ud, Ud, Ud, Ud, Ud, Ud, Ud, Ud]) rfl (fun _ => rfl) (fun u hu hF => ?_) (fun v33 => ?_)
  · have h12_ : v32 = (.slice p_pts L_pts.length q_pts) := hF.1
    clear hF
    refine doesG_un rfl ?_
    obtain rfl := h12_
    refine (does_indexSl (R := RV3) (i := 0) (xs := L_pts) (e := el1) Try.underlying31 Try.sizeOf26 (ev rfl) (ev rfl) (Sl.ext (Sl.ext hv_pts RV3.mono (Ext.gr X13 E29)) RV3.mono hu) (by omega) hel1).mono ?_; rintro v u' ⟨b, of, cs, hv, hc, hR, hu'⟩; subst hu'
    exact ⟨⟨b, of, cs, hv, hc, hR⟩, Ext.refl _⟩
  refine RW_d (fun v34 => [(.slice p_pts L_pts.length q_pts), Ud, (Pt b2 0), (Bo false), Ud, Ud, Ud, (.slice p_pts L_pts.length q_pts), (Iv (L_pts.length : Int)), (Bo (inI (L_pts.length : Int) 1 256)), (Bo (!(inI (L_pts.length : Int) 1 256))), Ud, v32, v33, v34, Ud, Ud, Ud, Ud, Ud, Ud, Ud, Ud, Ud, Ud, Ud, Ud, Ud, Ud, Ud, Ud, Ud, Ud, Ud, Ud, Ud, Ud, Ud, Ud, Ud, Ud]) rfl (fun _ => rfl) (fun u hu hF => ?_) (fun v34 => ?_)
  · have h13_ : PtrR RV3 u v33 el1 := hF.1
    clear hF
    refine doesG_un rfl ?_
    obtain ⟨b13_, o13_, _, rfl, hc13_, ⟨r13_1, r13_3, r13_5, rfl, h13_2, h13_4, h13_6⟩⟩ := h13_
    refine (does_loadAgg (cs := [(Fl r13_1), (Fl r13_3), (Fl r13_5)]) (ev rfl) Try.isAgg26 Try.sizeOf26 hc13_ rfl).mono ?_; rintro _ _ ⟨rfl, rfl⟩
    exact ⟨⟨[(Fl r13_1), (Fl r13_3), (Fl r13_5)], rfl, ⟨r13_1, r13_3, r13_5, rfl, (by first | assumption | rfl), (by first | assumption | rfl), (by first | assumption | rfl)⟩⟩, Ext.refl _⟩
  refine RW_d (fun v35 => [(.slice p_pts L_pts.length q_pts), Ud, (Pt b2 0), (Bo false), Ud, Ud, Ud, (.slice p_pts L_pts.length q_pts), (Iv (L_pts.length : Int)), (Bo (inI (L_pts.length : Int) 1 256)), (Bo (!(inI (L_pts.length : Int) 1 256))), Ud, v32, v33, v34, v35, Ud, Ud, Ud, Ud, Ud, Ud, Ud, Ud, Ud, Ud, Ud, Ud, Ud, Ud, Ud, Ud, Ud, Ud, Ud, Ud, Ud, Ud, Ud, Ud, Ud]) rfl (fun _ => rfl) (fun u hu hF => ?_) (fun v35 => ?_)
  · clear hF
    refine doesG_un rfl ?_
    refine (does_move (u := (.slice p_pts L_pts.length q_pts)) (ev rfl)).mono ?_; rintro _ _ ⟨rfl, rfl⟩
    exact ⟨rfl, Ext.refl _⟩
  refine RW_d (fun v36 => [(.slice p_pts L_pts.length q_pts), Ud, (Pt b2 0), (Bo false), Ud, Ud, Ud, (.slice p_pts L_pts.length q_pts), (Iv (L_pts.length : Int)), (Bo (inI (L_pts.length : Int) 1 256)), (Bo (!(inI (L_pts.length : Int) 1 256))), Ud, v32, v33, v34, v35, v36, Ud, Ud, Ud, Ud, Ud, Ud, Ud, Ud, Ud, Ud, Ud, Ud, Ud, Ud, Ud, Ud, Ud, Ud, Ud, Ud, Ud, Ud, Ud, Ud]) rfl (fun _ => rfl) (fun u hu hF => ?_) (fun v36 => ?_)
  · have h15_ : v35 = (.slice p_pts L_pts.length q_pts) := hF.1
    clear hF
    refine doesG_un rfl ?_
    obtain rfl := h15_
    refine (does_indexSl (R := RV3) (i := 0) (xs := L_pts) (e := el1) Try.underlying31 Try.sizeOf26 (ev rfl) (ev rfl) (Sl.ext (Sl.ext hv_pts RV3.mono (Ext.gr X13 E29)) RV3.mono hu) (by omega) hel1).mono ?_; rintro v u' ⟨b, of, cs, hv, hc, hR, hu'⟩; subst hu'
    exact ⟨⟨b, of, cs, hv, hc, hR⟩, Ext.refl _⟩
  refine RW_d (fun v37 => [(.slice p_pts L_pts.length q_pts), Ud, (Pt b2 0), (Bo false), Ud, Ud, Ud, (.slice p_pts L_pts.length q_pts), (Iv (L_pts.length : Int)), (Bo (inI (L_pts.length : Int) 1 256)), (Bo (!(inI (L_pts.length : Int) 1 256))), Ud, v32, v33, v34, v35, v36, v37, Ud, Ud, Ud, Ud, Ud, Ud, Ud, Ud, Ud, Ud, Ud, Ud, Ud, Ud, Ud, Ud, Ud, Ud, Ud, Ud, Ud, Ud, Ud]) rfl (fun _ => rfl) (fun u hu hF => ?_) (fun v37 => ?_)
  · have h16_ : PtrR RV3 u v36 el1 := hF.1
    clear hF
    refine doesG_un rfl ?_
    obtain ⟨b16_, o16_, _, rfl, hc16_, ⟨r16_1, r16_3, r16_5, rfl, h16_2, h16_4, h16_6⟩⟩ := h16_
    refine (does_loadAgg (cs := [(Fl r16_1), (Fl r16_3), (Fl r16_5)]) (ev rfl) Try.isAgg26 Try.sizeOf26 hc16_ rfl).mono ?_; rintro _ _ ⟨rfl, rfl⟩
    exact ⟨⟨[(Fl r16_1), (Fl r16_3), (Fl r16_5)], rfl, ⟨r16_1, r16_3, r16_5, rfl, (by first | assumption | rfl), (by first | assumption | rfl), (by first | assumption | rfl)⟩⟩, Ext.refl _⟩
  refine RW_d (fun v38 => [(.slice p_pts L_pts.length q_pts), Ud, (Pt b2 0), (Bo false), Ud, Ud, Ud, (.slice p_pts L_pts.length q_pts), (Iv (L_pts.length : Int)), (Bo (inI (L_pts.length : Int) 1 256)), (Bo (!(inI (L_pts.length : Int) 1 256))), Ud, v32, v33, v34, v35, v36, v37, v38, Ud, Ud, Ud, Ud, Ud, Ud, Ud, Ud, Ud, Ud, Ud, Ud, Ud, Ud, Ud, Ud, Ud, Ud, Ud, Ud, Ud, Ud]) rfl (fun _ => rfl) (fun u hu hF => ?_) (fun v38 => ?_)
  · have h14_ : ∃ cs_1 : List Value, v34 = (.agg cs_1.toArray) ∧ RV3 w el1 cs_1 := hF.1
    have h17_ : ∃ cs_1 : List Value, v37 = (.agg cs_1.toArray) ∧ RV3 w el1 cs_1 := hF.2.1
    clear hF
    refine doesG_un rfl ?_
    obtain ⟨_, rfl, ⟨r14_1, r14_3, r14_5, rfl, h14_2, h14_4, h14_6⟩⟩ := h14_
    obtain ⟨_, rfl, ⟨r17_1, r17_3, r17_5, rfl, h17_2, h17_4, h17_6⟩⟩ := h17_
    refine (does_build (parts' := [(0, (.agg #[(Fl r14_1), (Fl r14_3), (Fl r14_5)])), (1, (.agg #[(Fl r17_1), (Fl r17_3), (Fl r17_5)]))]) (cells := #[(Fl r14_1), (Fl r14_3), (Fl r14_5), (Fl r17_1), (Fl r17_3), (Fl r17_5)]) (evp rfl) (by kernel_rfl)).mono ?_; rintro _ _ ⟨rfl, rfl⟩
    exact ⟨⟨r14_1, r14_3, r14_5, r17_1, r17_3, r17_5, rfl, (by simp only [h14_2, h14_4, h14_6, h17_2, h17_4, h17_6]), (by simp only [h14_2, h14_4, h14_6, h17_2, h17_4, h17_6]), (by simp only [h14_2, h14_4, h14_6, h17_2, h17_4, h17_6]), (by simp only [h14_2, h14_4, h14_6, h17_2, h17_4, h17_6]), (by simp only [h14_2, h14_4, h14_6, h17_2, h17_4, h17_6]), (by simp only [h14_2, h14_4, h14_6, h17_2, h17_4, h17_6])⟩, Ext.refl _⟩
  refine RW_d (fun v39 => [(.slice p_pts L_pts.length q_pts), Ud, (Pt b2 0), (Bo false), v39, Ud, Ud, (.slice p_pts L_pts.length q_pts), (Iv (L_pts.length : Int)), (Bo (inI (L_pts.length : Int) 1 256)), (Bo (!(inI (L_pts.length : Int) 1 256))), Ud, v32, v33, v34, v35, v36, v37, v38, Ud, Ud, Ud, Ud, Ud, Ud, Ud, Ud, Ud, Ud, Ud, Ud, Ud, Ud, Ud, Ud, Ud, Ud, Ud, Ud, Ud, Ud]) rfl (fun _ => rfl) (fun u hu hF => ?_) (fun v39 => ?_)
  · clear hF
    refine doesG_un rfl ?_
    refine (does_alloc z28).mono ?_; rintro _ _ ⟨b, rfl, hb, hB, hx⟩
    exact ⟨⟨b, rfl, Nat.le_trans (Nat.le_trans (Below.size E29) (Below.size hu)) hb, hB⟩, hx⟩
  refine RW_fin ?_; intro w40 E41 hP42
  obtain ⟨⟨⟨⟨⟨⟨⟨⟨-, -⟩, -⟩, -⟩, -⟩, -⟩, -⟩, q43⟩, q44⟩ := hP42
  have X45 := Ext.gr X31 E41
  have q43 : ∃ r_1 : Nat, ∃ r_2 : Nat, ∃ r_3 : Nat, ∃ r_4 : Nat, ∃ r_5 : Nat, ∃ r_6 : Nat, v38 = (.agg #[(Fl r_1), (Fl r_2), (Fl r_3), (Fl r_4), (Fl r_5), (Fl r_6)]) ∧ cf .f32 r_1 = el1.x ∧ cf .f32 r_2 = el1.y ∧ cf .f32 r_3 = el1.z ∧ cf .f32 r_4 = el1.x ∧ cf .f32 r_5 = el1.y ∧ cf .f32 r_6 = el1.z := q43
  obtain ⟨r46, r48, r50, r52, r54, r56, rfl, h47, h49, h51, h53, h55, h57⟩ := q43
  have q44 : ∃ b : Nat, v39 = .pointer (some ⟨b, 0, none⟩) ∧ w12.heap.size ≤ b ∧ Blk w40 b [(Fl 0), (Fl 0), (Fl 0), (Fl 0), (Fl 0), (Fl 0)] := q44
  obtain ⟨b58, rfl, hb59, hB60⟩ := q44
  have n61 : b2 < b58 := Nat.lt_of_lt_of_le (Blk.lt (hB4.ext E11)) hb59
  have g62 : w.heap.size ≤ b58 := Nat.le_trans (Below.size X13) hb59
  show wpList _ _ _ _ (fr [(.slice p_pts L_pts.length q_pts), Ud, (Pt b2 0), (Bo false), (Pt b58 0), Ud, Ud, (.slice p_pts L_pts.length q_pts), (Iv (L_pts.length : Int)), (Bo (inI (L_pts.length : Int) 1 256)), (Bo (!(inI (L_pts.length : Int) 1 256))), Ud, v32, v33, v34, v35, v36, v37, (.agg #[(Fl r46), (Fl r48), (Fl r50), (Fl r52), (Fl r54), (Fl r56)]), Ud, Ud, Ud, Ud, Ud, Ud, Ud, Ud, Ud, Ud, Ud, Ud, Ud, Ud, Ud, Ud, Ud, Ud, Ud, Ud, Ud, Ud]) _
  refine seqn rfl rfl (does_store (n := 6) (cs := [(Fl 0), (Fl 0), (Fl 0), (Fl 0), (Fl 0), (Fl 0)]) (u := (.agg #[(Fl r46), (Fl r48), (Fl r50), (Fl r52), (Fl r54), (Fl r56)])) (ev rfl) (ev rfl) Try.sizeOf28 rfl hB60 (Nat.le_of_ble_eq_true rfl) rfl) ?_; rintro _ w65 ⟨rfl, W63, hB64⟩
  change Blk _ _ [(Fl r46), (Fl r48), (Fl r50), (Fl r52), (Fl r54), (Fl r56)] at hB64
  have X66 := Below.wr X45 W63 g62
  refine wpList_nil (hK27 _ _ ?_)
  refine wp_seq_k fun K67 hK67 => ?_
  refine wp_seq_k fun K68 hK68 => ?_
  refine wp_region_lit ?_
  refine q_is (l' := [(.slice p_pts L_pts.length q_pts), Ud, (Pt b2 0), (Bo false), (Pt b58 0), Ud, Ud, (.slice p_pts L_pts.length q_pts), (Iv (L_pts.length : Int)), (Bo (inI (L_pts.length : Int) 1 256)), (Bo (!(inI (L_pts.length : Int) 1 256))), Ud, v32, v33, v34, v35, v36, v37, (.agg #[(Fl r46), (Fl r48), (Fl r50), (Fl r52), (Fl r54), (Fl r56)]), (.slice p_pts L_pts.length q_pts), Ud, Ud, Ud, Ud, Ud, Ud, Ud, Ud, Ud, Ud, Ud, Ud, Ud, Ud, Ud, Ud, Ud, Ud, Ud, Ud, Ud]) rfl rfl (does_move (u := (.slice p_pts L_pts.length q_pts)) (ev rfl)) rfl ?_
  refine q_is (l' := [(.slice p_pts L_pts.length q_pts), Ud, (Pt b2 0), (Bo false), (Pt b58 0), Ud, Ud, (.slice p_pts L_pts.length q_pts), (Iv (L_pts.length : Int)), (Bo (inI (L_pts.length : Int) 1 256)), (Bo (!(inI (L_pts.length : Int) 1 256))), Ud, v32, v33, v34, v35, v36, v37, (.agg #[(Fl r46), (Fl r48), (Fl r50), (Fl r52), (Fl r54), (Fl r56)]), (.slice p_pts L_pts.length q_pts), (Iv (L_pts.length : Int)), Ud, Ud, Ud, Ud, Ud, Ud, Ud, Ud, Ud, Ud, Ud, Ud, Ud, Ud, Ud, Ud, Ud, Ud, Ud, Ud]) rfl rfl (does_len_slice Try.underlying31 (ev rfl)) rfl ?_
  refine q_is (l' := [(.slice p_pts L_pts.length q_pts), Ud, (Pt b2 0), (Bo false), (Pt b58 0), Ud, Ud, (.slice p_pts L_pts.length q_pts), (Iv (L_pts.length : Int)), (Bo (inI (L_pts.length : Int) 1 256)), (Bo (!(inI (L_pts.length : Int) 1 256))), Ud, v32, v33, v34, v35, v36, v37, (.agg #[(Fl r46), (Fl r48), (Fl r50), (Fl r52), (Fl r54), (Fl r56)]), (.slice p_pts L_pts.length q_pts), (Iv (L_pts.length : Int)), (Iv 0), Ud, Ud, Ud, Ud, Ud, Ud, Ud, Ud, Ud, Ud, Ud, Ud, Ud, Ud, Ud, Ud, Ud, Ud, Ud]) rfl rfl (does_move (u := (Iv 0)) (ev rfl)) rfl ?_
  refine wpList_nil (hK68 _ _ ?_)
  refine wp_block ?_
  have hO70 : ∃ cs, Blk w65 b58 cs ∧ RBx w65 ((fun (k : Nat) => boxTo L_pts k) 0) cs := ⟨_, hB64, by (dsimp only; rw [boxTo_zero hel1]; exact ⟨r46, r48, r50, r52, r54, r56, rfl, h47, h49, h51, h53, h55, h57⟩)⟩
  refine loop_ghost (σ := Nat) (fun k a w' => ∃ u69 : Nat → Value, a = fr [(.slice p_pts L_pts.length q_pts), Ud, (Pt b2 0), (u69 3), (Pt b58 0), Ud, (u69 6), (.slice p_pts L_pts.length q_pts), (Iv (L_pts.length : Int)), (Bo (inI (L_pts.length : Int) 1 256)), (Bo (!(inI (L_pts.length : Int) 1 256))), Ud, v32, v33, v34, v35, v36, v37, (.agg #[(Fl r46), (Fl r48), (Fl r50), (Fl r52), (Fl r54), (Fl r56)]), (.slice p_pts L_pts.length q_pts), (Iv (L_pts.length : Int)), (Iv (k : Int)), (u69 22), (u69 23), (u69 24), (u69 25), (u69 26), (u69 27), (u69 28), (u69 29), (u69 30), (u69 31), (u69 32), (u69 33), (u69 34), (u69 35), (u69 36), (u69 37), (u69 38), (u69 39), Ud] ∧ KpL [b58] w65 w' ∧ (∃ cs, Blk w' b58 cs ∧ RBx w' (boxTo L_pts k) cs) ∧ (k ≤ L_pts.length ∧ AllTo finV L_pts k)) (fun k => L_pts.length - k) 0 ?_ ?_
  · refine ⟨fun t => (([(.slice p_pts L_pts.length q_pts), Ud, (Pt b2 0), (Bo false), (Pt b58 0), Ud, Ud, (.slice p_pts L_pts.length q_pts), (Iv (L_pts.length : Int)), (Bo (inI (L_pts.length : Int) 1 256)), (Bo (!(inI (L_pts.length : Int) 1 256))), Ud, v32, v33, v34, v35, v36, v37, (.agg #[(Fl r46), (Fl r48), (Fl r50), (Fl r52), (Fl r54), (Fl r56)]), (.slice p_pts L_pts.length q_pts), (Iv (L_pts.length : Int)), (Iv 0), Ud, Ud, Ud, Ud, Ud, Ud, Ud, Ud, Ud, Ud, Ud, Ud, Ud, Ud, Ud, Ud, Ud, Ud, Ud] : List Value)[t]?).getD undef, rfl, KpL.refl _ _, hO70, ?_⟩
    exact ⟨Nat.zero_le _, AllTo.zero⟩
  · rintro k a w71 ⟨u69, rfl, E72, ⟨cs74, hB75, hR76⟩, ⟨hk, hal⟩⟩
    have X77 := Below.kl X66 E72 (allS g62 all0) (Nat.le_refl _)
    obtain ⟨r78, r80, r82, r84, r86, r88, rfl, h79, h81, h83, h85, h87, h89⟩ := hR76
    refine wp_seq_k fun K90 hK90 => ?_
    refine wp_region_lit ?_
    refine q_is (l' := [(.slice p_pts L_pts.length q_pts), Ud, (Pt b2 0), (u69 3), (Pt b58 0), Ud, (u69 6), (.slice p_pts L_pts.length q_pts), (Iv (L_pts.length : Int)), (Bo (inI (L_pts.length : Int) 1 256)), (Bo (!(inI (L_pts.length : Int) 1 256))), Ud, v32, v33, v34, v35, v36, v37, (.agg #[(Fl r46), (Fl r48), (Fl r50), (Fl r52), (Fl r54), (Fl r56)]), (.slice p_pts L_pts.length q_pts), (Iv (L_pts.length : Int)), (Iv (k : Int)), (Bo (icmp .lss (k : Int) (L_pts.length : Int))), (u69 23), (u69 24), (u69 25), (u69 26), (u69 27), (u69 28), (u69 29), (u69 30), (u69 31), (u69 32), (u69 33), (u69 34), (u69 35), (u69 36), (u69 37), (u69 38), (u69 39), Ud]) rfl rfl (does_icmp (p := (k : Int)) (q := (L_pts.length : Int)) (.inr (.inr (.inl rfl))) (ev rfl) (ev rfl)) rfl ?_
    refine wpList_nil (hK90 _ _ ?_)
    refine wp_seq_k fun K91 hK91 => ?_
    refine wp_cond_split (t := icmp .lss (k : Int) (L_pts.length : Int)) (ev rfl) (fun c92 => ?_) (fun c92 => ?_)
    · have c92' := c92
      (try simp only [inI] at c92')
      (try simp only [icmp, Bool.and_eq_true, Bool.or_eq_true, Bool.and_eq_false_iff, Bool.or_eq_false_iff, Bool.not_eq_true', Bool.not_eq_false', decide_eq_true_eq, decide_eq_false_iff_not, beq_iff_eq, bne_iff_ne, beq_eq_false_iff_ne, bne_eq_false_iff_eq] at c92')
      refine wp_skip (hK91 _ _ ?_)
      refine wp_seq_k fun K93 hK93 => ?_
      refine wp_block ?_
      refine wp_seq_k fun K94 hK94 => ?_
      refine wp_region_lit ?_
      obtain ⟨el2, hel2⟩ : ∃ e, L_pts[k]? = some e := ⟨_, List.getElem?_eq_getElem (by omega)⟩
      refine seqd rfl rfl (does_indexSl (R := RV3) (i := (k : Int)) (xs := L_pts) (e := el2) Try.underlying31 Try.sizeOf26 (ev rfl) (ev rfl) (Sl.ext hv_pts RV3.mono X77) (by omega) hel2) ?_; rintro _ _ ⟨b95, o96, _, rfl, hc98, ⟨r99, r101, r103, rfl, h100, h102, h104⟩, rfl⟩
      show wpList _ _ _ _ (fr [(.slice p_pts L_pts.length q_pts), Ud, (Pt b2 0), (u69 3), (Pt b58 0), Ud, (u69 6), (.slice p_pts L_pts.length q_pts), (Iv (L_pts.length : Int)), (Bo (inI (L_pts.length : Int) 1 256)), (Bo (!(inI (L_pts.length : Int) 1 256))), Ud, v32, v33, v34, v35, v36, v37, (.agg #[(Fl r46), (Fl r48), (Fl r50), (Fl r52), (Fl r54), (Fl r56)]), (.slice p_pts L_pts.length q_pts), (Iv (L_pts.length : Int)), (Iv (k : Int)), (Bo (icmp .lss (k : Int) (L_pts.length : Int))), (Pt b95 o96), (u69 24), (u69 25), (u69 26), (u69 27), (u69 28), (u69 29), (u69 30), (u69 31), (u69 32), (u69 33), (u69 34), (u69 35), (u69 36), (u69 37), (u69 38), (u69 39), Ud]) _
      refine q_is (l' := [(.slice p_pts L_pts.length q_pts), Ud, (Pt b2 0), (u69 3), (Pt b58 0), Ud, (u69 6), (.slice p_pts L_pts.length q_pts), (Iv (L_pts.length : Int)), (Bo (inI (L_pts.length : Int) 1 256)), (Bo (!(inI (L_pts.length : Int) 1 256))), Ud, v32, v33, v34, v35, v36, v37, (.agg #[(Fl r46), (Fl r48), (Fl r50), (Fl r52), (Fl r54), (Fl r56)]), (.slice p_pts L_pts.length q_pts), (Iv (L_pts.length : Int)), (Iv (k : Int)), (Bo (icmp .lss (k : Int) (L_pts.length : Int))), (Pt b95 o96), (.agg #[(Fl r99), (Fl r101), (Fl r103)]), (u69 25), (u69 26), (u69 27), (u69 28), (u69 29), (u69 30), (u69 31), (u69 32), (u69 33), (u69 34), (u69 35), (u69 36), (u69 37), (u69 38), (u69 39), Ud]) rfl rfl (does_loadAgg (cs := [(Fl r99), (Fl r101), (Fl r103)]) (ev rfl) Try.isAgg26 Try.sizeOf26 hc98 rfl) rfl ?_
      refine seqd rfl rfl (does_alloc z26) ?_; rintro _ w109 ⟨b105, rfl, hb106, hB107, E108⟩
      have n110 : b2 < b105 := Nat.lt_of_lt_of_le (Blk.lt (((((hB4.ext E11).ext E29).ext E41).wr W63 (Nat.ne_of_lt n61)).kl E72 (ninS (Nat.ne_of_lt n61) nin0))) hb106
      have n111 : b58 < b105 := Nat.lt_of_lt_of_le (Blk.lt hB75) hb106
      have n112 : b95 < b105 := Nat.lt_of_lt_of_le (cell_lt (Cells.at hc98 0 rfl)) hb106
      have g113 : w.heap.size ≤ b105 := Nat.le_trans (Below.size X77) hb106
      change Blk _ _ [(Fl 0), (Fl 0), (Fl 0)] at hB107
      have X114 := Ext.gr X77 E108
      show wpList _ _ _ _ (fr [(.slice p_pts L_pts.length q_pts), Ud, (Pt b2 0), (u69 3), (Pt b58 0), Ud, (Pt b105 0), (.slice p_pts L_pts.length q_pts), (Iv (L_pts.length : Int)), (Bo (inI (L_pts.length : Int) 1 256)), (Bo (!(inI (L_pts.length : Int) 1 256))), Ud, v32, v33, v34, v35, v36, v37, (.agg #[(Fl r46), (Fl r48), (Fl r50), (Fl r52), (Fl r54), (Fl r56)]), (.slice p_pts L_pts.length q_pts), (Iv (L_pts.length : Int)), (Iv (k : Int)), (Bo (icmp .lss (k : Int) (L_pts.length : Int))), (Pt b95 o96), (.agg #[(Fl r99), (Fl r101), (Fl r103)]), (u69 25), (u69 26), (u69 27), (u69 28), (u69 29), (u69 30), (u69 31), (u69 32), (u69 33), (u69 34), (u69 35), (u69 36), (u69 37), (u69 38), (u69 39), Ud]) _
      refine seqn rfl rfl (does_store (n := 3) (cs := [(Fl 0), (Fl 0), (Fl 0)]) (u := (.agg #[(Fl r99), (Fl r101), (Fl r103)])) (ev rfl) (ev rfl) Try.sizeOf26 rfl hB107 (Nat.le_of_ble_eq_true rfl) rfl) ?_; rintro _ w117 ⟨rfl, W115, hB116⟩
      change Blk _ _ [(Fl r99), (Fl r101), (Fl r103)] at hB116
      have X118 := Below.wr X114 W115 g113
      refine wpList_nil (hK94 _ _ ?_)
      refine wp_seq_k fun K119 hK119 => ?_
      refine wp_seq_k fun K120 hK120 => ?_
      refine wp_region_lit ?_
      refine q_is (l' := [(.slice p_pts L_pts.length q_pts), Ud, (Pt b2 0), (u69 3), (Pt b58 0), Ud, (Pt b105 0), (.slice p_pts L_pts.length q_pts), (Iv (L_pts.length : Int)), (Bo (inI (L_pts.length : Int) 1 256)), (Bo (!(inI (L_pts.length : Int) 1 256))), Ud, v32, v33, v34, v35, v36, v37, (.agg #[(Fl r46), (Fl r48), (Fl r50), (Fl r52), (Fl r54), (Fl r56)]), (.slice p_pts L_pts.length q_pts), (Iv (L_pts.length : Int)), (Iv (k : Int)), (Bo (icmp .lss (k : Int) (L_pts.length : Int))), (Pt b95 o96), (.agg #[(Fl r99), (Fl r101), (Fl r103)]), (.agg #[(Fl r99), (Fl r101), (Fl r103)]), (u69 26), (u69 27), (u69 28), (u69 29), (u69 30), (u69 31), (u69 32), (u69 33), (u69 34), (u69 35), (u69 36), (u69 37), (u69 38), (u69 39), Ud]) rfl rfl (does_loadAgg (cs := [(Fl r99), (Fl r101), (Fl r103)]) (ev rfl) Try.isAgg26 Try.sizeOf26 (Blk.cells hB116) rfl) rfl ?_
      refine seqd rfl rfl (does_call (args := #[(.agg #[(Fl r99), (Fl r101), (Fl r103)])]) cal57 (evs rfl) (c_impl_finiteVector [(Fl r99), (Fl r101), (Fl r103)] el2 _ ⟨r99, r101, r103, rfl, h100, h102, h104⟩)) ?_; rintro _ w122 ⟨E121, rfl⟩
      have X123 := Ext.gr X118 E121
      show wpList _ _ _ _ (fr [(.slice p_pts L_pts.length q_pts), Ud, (Pt b2 0), (u69 3), (Pt b58 0), Ud, (Pt b105 0), (.slice p_pts L_pts.length q_pts), (Iv (L_pts.length : Int)), (Bo (inI (L_pts.length : Int) 1 256)), (Bo (!(inI (L_pts.length : Int) 1 256))), Ud, v32, v33, v34, v35, v36, v37, (.agg #[(Fl r46), (Fl r48), (Fl r50), (Fl r52), (Fl r54), (Fl r56)]), (.slice p_pts L_pts.length q_pts), (Iv (L_pts.length : Int)), (Iv (k : Int)), (Bo (icmp .lss (k : Int) (L_pts.length : Int))), (Pt b95 o96), (.agg #[(Fl r99), (Fl r101), (Fl r103)]), (.agg #[(Fl r99), (Fl r101), (Fl r103)]), (Bo (finV el2)), (u69 27), (u69 28), (u69 29), (u69 30), (u69 31), (u69 32), (u69 33), (u69 34), (u69 35), (u69 36), (u69 37), (u69 38), (u69 39), Ud]) _
      refine q_is (l' := [(.slice p_pts L_pts.length q_pts), Ud, (Pt b2 0), (u69 3), (Pt b58 0), Ud, (Pt b105 0), (.slice p_pts L_pts.length q_pts), (Iv (L_pts.length : Int)), (Bo (inI (L_pts.length : Int) 1 256)), (Bo (!(inI (L_pts.length : Int) 1 256))), Ud, v32, v33, v34, v35, v36, v37, (.agg #[(Fl r46), (Fl r48), (Fl r50), (Fl r52), (Fl r54), (Fl r56)]), (.slice p_pts L_pts.length q_pts), (Iv (L_pts.length : Int)), (Iv (k : Int)), (Bo (icmp .lss (k : Int) (L_pts.length : Int))), (Pt b95 o96), (.agg #[(Fl r99), (Fl r101), (Fl r103)]), (.agg #[(Fl r99), (Fl r101), (Fl r103)]), (Bo (finV el2)), (Bo (!(finV el2))), (u69 28), (u69 29), (u69 30), (u69 31), (u69 32), (u69 33), (u69 34), (u69 35), (u69 36), (u69 37), (u69 38), (u69 39), Ud]) rfl rfl (does_not (ev rfl)) rfl ?_
      refine wpList_nil (hK120 _ _ ?_)
      refine wp_cond_split (t := !(finV el2)) (ev rfl) (fun c124 => ?_) (fun c124 => ?_)
      · rw [Bool.not_eq_true'] at c124
        have c124' := c124
        (try simp only [inI] at c124')
        (try simp only [icmp, Bool.and_eq_true, Bool.or_eq_true, Bool.and_eq_false_iff, Bool.or_eq_false_iff, Bool.not_eq_true', Bool.not_eq_false', decide_eq_true_eq, decide_eq_false_iff_not, beq_iff_eq, bne_iff_ne, beq_eq_false_iff_ne, bne_eq_false_iff_eq] at c124')
        refine wp_seq_k fun K125 hK125 => ?_
        refine wp_region_lit ?_
        refine q_is (l' := [(.slice p_pts L_pts.length q_pts), Ud, (Pt b2 0), (u69 3), (Pt b58 0), Ud, (Pt b105 0), (.slice p_pts L_pts.length q_pts), (Iv (L_pts.length : Int)), (Bo (inI (L_pts.length : Int) 1 256)), (Bo (!(inI (L_pts.length : Int) 1 256))), Ud, v32, v33, v34, v35, v36, v37, (.agg #[(Fl r46), (Fl r48), (Fl r50), (Fl r52), (Fl r54), (Fl r56)]), (.slice p_pts L_pts.length q_pts), (Iv (L_pts.length : Int)), (Iv (k : Int)), (Bo (icmp .lss (k : Int) (L_pts.length : Int))), (Pt b95 o96), (.agg #[(Fl r99), (Fl r101), (Fl r103)]), (.agg #[(Fl r99), (Fl r101), (Fl r103)]), (Bo (finV el2)), (Bo (!(finV el2))), (.agg #[(Fl 0), (Fl 0), (Fl 0), (Fl 0), (Fl 0), (Fl 0)]), (u69 29), (u69 30), (u69 31), (u69 32), (u69 33), (u69 34), (u69 35), (u69 36), (u69 37), (u69 38), (u69 39), Ud]) rfl rfl (does_build (parts' := []) (cells := #[(Fl 0), (Fl 0), (Fl 0), (Fl 0), (Fl 0), (Fl 0)]) (evp rfl) (by kernel_rfl)) rfl ?_
        refine seqn rfl rfl (does_store (n := 6) (cs := [(Fl 0), (Fl 0), (Fl 0), (Fl 0), (Fl 0), (Fl 0)]) (u := (.agg #[(Fl 0), (Fl 0), (Fl 0), (Fl 0), (Fl 0), (Fl 0)])) (ev rfl) (ev rfl) Try.sizeOf28 rfl ((((((((hB4.ext E11).ext E29).ext E41).wr W63 (Nat.ne_of_lt n61)).kl E72 (ninS (Nat.ne_of_lt n61) nin0)).ext E108).wr W115 (Nat.ne_of_lt n110)).ext E121) (Nat.le_of_ble_eq_true rfl) rfl) ?_; rintro _ w128 ⟨rfl, W126, hB127⟩
        change Blk _ _ [(Fl 0), (Fl 0), (Fl 0), (Fl 0), (Fl 0), (Fl 0)] at hB127
        have X129 := Below.wr X123 W126 g7
        refine q_is (l' := [(.slice p_pts L_pts.length q_pts), Ud, (Pt b2 0), (Bo false), (Pt b58 0), Ud, (Pt b105 0), (.slice p_pts L_pts.length q_pts), (Iv (L_pts.length : Int)), (Bo (inI (L_pts.length : Int) 1 256)), (Bo (!(inI (L_pts.length : Int) 1 256))), Ud, v32, v33, v34, v35, v36, v37, (.agg #[(Fl r46), (Fl r48), (Fl r50), (Fl r52), (Fl r54), (Fl r56)]), (.slice p_pts L_pts.length q_pts), (Iv (L_pts.length : Int)), (Iv (k : Int)), (Bo (icmp .lss (k : Int) (L_pts.length : Int))), (Pt b95 o96), (.agg #[(Fl r99), (Fl r101), (Fl r103)]), (.agg #[(Fl r99), (Fl r101), (Fl r103)]), (Bo (finV el2)), (Bo (!(finV el2))), (.agg #[(Fl 0), (Fl 0), (Fl 0), (Fl 0), (Fl 0), (Fl 0)]), (u69 29), (u69 30), (u69 31), (u69 32), (u69 33), (u69 34), (u69 35), (u69 36), (u69 37), (u69 38), (u69 39), Ud]) rfl rfl (does_assign (u := (Bo false)) (ev rfl)) rfl ?_
        refine wpList_nil (hK125 _ _ ?_)
        refine wp_ret ?_
        dsimp only [Exit.then, Exit.inBlock]
        refine ret_val (v := (.tuple #[(.agg #[(Fl 0), (Fl 0), (Fl 0), (Fl 0), (Fl 0), (Fl 0)]), (Bo false)])) (res_CT rfl (slot rfl) (run_loadAgg (cs := [(Fl 0), (Fl 0), (Fl 0), (Fl 0), (Fl 0), (Fl 0)]) Try.isAgg28 Try.sizeOf28 (Blk.cells hB127) rfl) (slot rfl)) X129 ?_
        try simp only [hel1, h47, h49, h51, h53, h55, h57, h79, h81, h83, h85, h87, h89, hel2, h100, h102, h104] at c14 c92 c124
        have x130 : (bxOk L_pts) = false := by first | exact bxOk_len (by assumption) | exact bxOk_len2 (by assumption) | exact bxOk_bad (by assumption) (by assumption) | exact bxOk_ok1 (by assumption) hal (by omega) | exact bxOk_ok2 (by assumption) hal (by omega) | (rw [bxOk_len (by assumption)]; simp only [gvA_f, zB, zV]; done) | (rw [bxOk_len2 (by assumption)]; simp only [gvA_f, zB, zV]; done) | (rw [bxOk_bad (by assumption) (by assumption)]; simp only [gvA_f, zB, zV]; done) | (rw [bxOk_ok1 (by assumption) hal (by omega), gvA_t, show L_pts.length = k by omega]; assumption) | (rw [bxOk_ok2 (by assumption) hal (by omega), gvA_t, show L_pts.length = k by omega]; assumption)
        have x131 : cf .f32 0 = (gvA zB (bxOk L_pts) (boxTo L_pts L_pts.length)).lo.x := by first | exact bxOk_len (by assumption) | exact bxOk_len2 (by assumption) | exact bxOk_bad (by assumption) (by assumption) | exact bxOk_ok1 (by assumption) hal (by omega) | exact bxOk_ok2 (by assumption) hal (by omega) | (rw [bxOk_len (by assumption)]; simp only [gvA_f, zB, zV]; done) | (rw [bxOk_len2 (by assumption)]; simp only [gvA_f, zB, zV]; done) | (rw [bxOk_bad (by assumption) (by assumption)]; simp only [gvA_f, zB, zV]; done) | (rw [bxOk_ok1 (by assumption) hal (by omega), gvA_t, show L_pts.length = k by omega]; assumption) | (rw [bxOk_ok2 (by assumption) hal (by omega), gvA_t, show L_pts.length = k by omega]; assumption)
        have x132 : cf .f32 0 = (gvA zB (bxOk L_pts) (boxTo L_pts L_pts.length)).lo.y := by first | exact bxOk_len (by assumption) | exact bxOk_len2 (by assumption) | exact bxOk_bad (by assumption) (by assumption) | exact bxOk_ok1 (by assumption) hal (by omega) | exact bxOk_ok2 (by assumption) hal (by omega) | (rw [bxOk_len (by assumption)]; simp only [gvA_f, zB, zV]; done) | (rw [bxOk_len2 (by assumption)]; simp only [gvA_f, zB, zV]; done) | (rw [bxOk_bad (by assumption) (by assumption)]; simp only [gvA_f, zB, zV]; done) | (rw [bxOk_ok1 (by assumption) hal (by omega), gvA_t, show L_pts.length = k by omega]; assumption) | (rw [bxOk_ok2 (by assumption) hal (by omega), gvA_t, show L_pts.length = k by omega]; assumption)
        have x133 : cf .f32 0 = (gvA zB (bxOk L_pts) (boxTo L_pts L_pts.length)).lo.z := by first | exact bxOk_len (by assumption) | exact bxOk_len2 (by assumption) | exact bxOk_bad (by assumption) (by assumption) | exact bxOk_ok1 (by assumption) hal (by omega) | exact bxOk_ok2 (by assumption) hal (by omega) | (rw [bxOk_len (by assumption)]; simp only [gvA_f, zB, zV]; done) | (rw [bxOk_len2 (by assumption)]; simp only [gvA_f, zB, zV]; done) | (rw [bxOk_bad (by assumption) (by assumption)]; simp only [gvA_f, zB, zV]; done) | (rw [bxOk_ok1 (by assumption) hal (by omega), gvA_t, show L_pts.length = k by omega]; assumption) | (rw [bxOk_ok2 (by assumption) hal (by omega), gvA_t, show L_pts.length = k by omega]; assumption)
        have x134 : cf .f32 0 = (gvA zB (bxOk L_pts) (boxTo L_pts L_pts.length)).hi.x := by first | exact bxOk_len (by assumption) | exact bxOk_len2 (by assumption) | exact bxOk_bad (by assumption) (by assumption) | exact bxOk_ok1 (by assumption) hal (by omega) | exact bxOk_ok2 (by assumption) hal (by omega) | (rw [bxOk_len (by assumption)]; simp only [gvA_f, zB, zV]; done) | (rw [bxOk_len2 (by assumption)]; simp only [gvA_f, zB, zV]; done) | (rw [bxOk_bad (by assumption) (by assumption)]; simp only [gvA_f, zB, zV]; done) | (rw [bxOk_ok1 (by assumption) hal (by omega), gvA_t, show L_pts.length = k by omega]; assumption) | (rw [bxOk_ok2 (by assumption) hal (by omega), gvA_t, show L_pts.length = k by omega]; assumption)
        have x135 : cf .f32 0 = (gvA zB (bxOk L_pts) (boxTo L_pts L_pts.length)).hi.y := by first | exact bxOk_len (by assumption) | exact bxOk_len2 (by assumption) | exact bxOk_bad (by assumption) (by assumption) | exact bxOk_ok1 (by assumption) hal (by omega) | exact bxOk_ok2 (by assumption) hal (by omega) | (rw [bxOk_len (by assumption)]; simp only [gvA_f, zB, zV]; done) | (rw [bxOk_len2 (by assumption)]; simp only [gvA_f, zB, zV]; done) | (rw [bxOk_bad (by assumption) (by assumption)]; simp only [gvA_f, zB, zV]; done) | (rw [bxOk_ok1 (by assumption) hal (by omega), gvA_t, show L_pts.length = k by omega]; assumption) | (rw [bxOk_ok2 (by assumption) hal (by omega), gvA_t, show L_pts.length = k by omega]; assumption)
        have x136 : cf .f32 0 = (gvA zB (bxOk L_pts) (boxTo L_pts L_pts.length)).hi.z := by first | exact bxOk_len (by assumption) | exact bxOk_len2 (by assumption) | exact bxOk_bad (by assumption) (by assumption) | exact bxOk_ok1 (by assumption) hal (by omega) | exact bxOk_ok2 (by assumption) hal (by omega) | (rw [bxOk_len (by assumption)]; simp only [gvA_f, zB, zV]; done) | (rw [bxOk_len2 (by assumption)]; simp only [gvA_f, zB, zV]; done) | (rw [bxOk_bad (by assumption) (by assumption)]; simp only [gvA_f, zB, zV]; done) | (rw [bxOk_ok1 (by assumption) hal (by omega), gvA_t, show L_pts.length = k by omega]; assumption) | (rw [bxOk_ok2 (by assumption) hal (by omega), gvA_t, show L_pts.length = k by omega]; assumption)
        exact ⟨[(Fl 0), (Fl 0), (Fl 0), (Fl 0), (Fl 0), (Fl 0)], (by first | rfl | rw [x130]), ⟨0, 0, 0, 0, 0, 0, rfl, x131, x132, x133, x134, x135, x136⟩⟩
      rw [Bool.not_eq_false'] at c124
      have c124' := c124
      (try simp only [inI] at c124')
      (try simp only [icmp, Bool.and_eq_true, Bool.or_eq_true, Bool.and_eq_false_iff, Bool.or_eq_false_iff, Bool.not_eq_true', Bool.not_eq_false', decide_eq_true_eq, decide_eq_false_iff_not, beq_iff_eq, bne_iff_ne, beq_eq_false_iff_ne, bne_eq_false_iff_eq] at c124')
      refine wp_skip (hK119 _ _ ?_)
      have n140 : b58 < w122.heap.size := Blk.lt (((hB75.ext E108).wr W115 (Nat.ne_of_lt n111)).ext E121)
      refine region_any2 [b58] [0, 1, 0, 7, 0, 16, 0, 127, 63, 511, 1023, 2047] [0] (
        [FactW.pure [] [] [0] true (fun v => v = (Pt b58 0)),
          FactW.pure [0] [] [0] true (fun v => v = (.agg #[(Fl r78), (Fl r80), (Fl r82)])),
          FactW.pure [] [] [0] true (fun v => v = (.agg #[(Fl r99), (Fl r101), (Fl r103)])),
          FactW.pure [1, 2] [] [0] true (fun v => ∃ cs_1 : List Value, v = (.agg cs_1.toArray) ∧ RV3 w (v2 (fun x y => fminL x y) (boxTo L_pts k).lo el2) cs_1),
          FactW.pure [] [] [0] true (fun v => v = (Pt b58 3)),
          FactW.pure [4] [] [0] true (fun v => v = (.agg #[(Fl r84), (Fl r86), (Fl r88)])),
          FactW.pure [] [] [0] true (fun v => v = (.agg #[(Fl r99), (Fl r101), (Fl r103)])),
          FactW.pure [5, 6] [] [0] true (fun v => ∃ cs_1 : List Value, v = (.agg cs_1.toArray) ∧ RV3 w (v2 (fun x y => fmaxG x y) (boxTo L_pts k).hi el2) cs_1),
          FactW.pure [] [] [0] true (fun v => v = (Pt b58 0)),
          FactW.mem [8, 3] [] [0] [] false (fun v w' => v = undef ∧ ∃ r_1 : Nat, ∃ r_2 : Nat, ∃ r_3 : Nat, Blk w' b58 [(Fl r_1), (Fl r_2), (Fl r_3), (Fl r84), (Fl r86), (Fl r88)] ∧ cf .f32 r_1 = (v2 (fun x y => fminL x y) (boxTo L_pts k).lo el2).x ∧ cf .f32 r_2 = (v2 (fun x y => fminL x y) (boxTo L_pts k).lo el2).y ∧ cf .f32 r_3 = (v2 (fun x y => fminL x y) (boxTo L_pts k).lo el2).z) (by rintro v w1 w2 hx ⟨rfl, z0, z1, z2, h, k0, k1, k2⟩; exact ⟨rfl, z0, z1, z2, h.ext (KpL.toExt hx), k0, k1, k2⟩),
          FactW.pure [] [0] [0] true (fun v => v = (Pt b58 3)),
          FactW.mem [9, 10, 7] [0] [0] [] true (fun v w' => v = undef ∧ ∃ r_1 : Nat, ∃ r_2 : Nat, ∃ r_3 : Nat, ∃ r_4 : Nat, ∃ r_5 : Nat, ∃ r_6 : Nat, Blk w' b58 [(Fl r_1), (Fl r_2), (Fl r_3), (Fl r_4), (Fl r_5), (Fl r_6)] ∧ cf .f32 r_1 = (v2 (fun x y => fminL x y) (boxTo L_pts k).lo el2).x ∧ cf .f32 r_2 = (v2 (fun x y => fminL x y) (boxTo L_pts k).lo el2).y ∧ cf .f32 r_3 = (v2 (fun x y => fminL x y) (boxTo L_pts k).lo el2).z ∧ cf .f32 r_4 = (v2 (fun x y => fmaxG x y) (boxTo L_pts k).hi el2).x ∧ cf .f32 r_5 = (v2 (fun x y => fmaxG x y) (boxTo L_pts k).hi el2).y ∧ cf .f32 r_6 = (v2 (fun x y => fmaxG x y) (boxTo L_pts k).hi el2).z) (by rintro v w1 w2 hx ⟨rfl, z0, z1, z2, z3, z4, z5, h, k0, k1, k2, k3, k4, k5⟩; exact ⟨rfl, z0, z1, z2, z3, z4, z5, h.ext (KpL.toExt hx), k0, k1, k2, k3, k4, k5⟩)]) mixed rfl (by kernel_rfl) ?_
      obtain ⟨w137, hw139⟩ : ∃ w', w' = World.drew w122 := ⟨_, rfl⟩; rw [← hw139]; have E138 : Ext w122 w137 := by rw [hw139]; exact Ext.draw _
      clear hw139
      have X141 := Ext.gr X123 E138
      refine RW2_d (fun v142 => [(.slice p_pts L_pts.length q_pts), Ud, (Pt b2 0), (u69 3), (Pt b58 0), Ud, (Pt b105 0), (.slice p_pts L_pts.length q_pts), (Iv (L_pts.length : Int)), (Bo (inI (L_pts.length : Int) 1 256)), (Bo (!(inI (L_pts.length : Int) 1 256))), Ud, v32, v33, v34, v35, v36, v37, (.agg #[(Fl r46), (Fl r48), (Fl r50), (Fl r52), (Fl r54), (Fl r56)]), (.slice p_pts L_pts.length q_pts), (Iv (L_pts.length : Int)), (Iv (k : Int)), (Bo (icmp .lss (k : Int) (L_pts.length : Int))), (Pt b95 o96), (.agg #[(Fl r99), (Fl r101), (Fl r103)]), (.agg #[(Fl r99), (Fl r101), (Fl r103)]), (Bo (finV el2)), (Bo (!(finV el2))), (u69 28), v142, (u69 30), (u69 31), (u69 32), (u69 33), (u69 34), (u69 35), (u69 36), (u69 37), (u69 38), (u69 39), Ud]) rfl (fun _ => rfl) (fun u hu hF => ?_) (fun v142 => ?_)
      · replace hu : KpL [] _ _ := hu
        clear hF
        refine doesG_un rfl ?_
        refine (does_fieldAddr (ev rfl) fa28_0).mono ?_; rintro _ _ ⟨rfl, rfl⟩
        exact ⟨rfl, KpL.refl _ _⟩
      refine RW2_d (fun v143 => [(.slice p_pts L_pts.length q_pts), Ud, (Pt b2 0), (u69 3), (Pt b58 0), Ud, (Pt b105 0), (.slice p_pts L_pts.length q_pts), (Iv (L_pts.length : Int)), (Bo (inI (L_pts.length : Int) 1 256)), (Bo (!(inI (L_pts.length : Int) 1 256))), Ud, v32, v33, v34, v35, v36, v37, (.agg #[(Fl r46), (Fl r48), (Fl r50), (Fl r52), (Fl r54), (Fl r56)]), (.slice p_pts L_pts.length q_pts), (Iv (L_pts.length : Int)), (Iv (k : Int)), (Bo (icmp .lss (k : Int) (L_pts.length : Int))), (Pt b95 o96), (.agg #[(Fl r99), (Fl r101), (Fl r103)]), (.agg #[(Fl r99), (Fl r101), (Fl r103)]), (Bo (finV el2)), (Bo (!(finV el2))), (u69 28), v142, v143, (u69 31), (u69 32), (u69 33), (u69 34), (u69 35), (u69 36), (u69 37), (u69 38), (u69 39), Ud]) rfl (fun _ => rfl) (fun u hu hF => ?_) (fun v143 => ?_)
      · replace hu : KpL [] _ _ := hu
        have h29_ : v142 = (Pt b58 0) := hF.1
        clear hF
        refine doesG_un rfl ?_
        obtain rfl := h29_
        refine (does_loadAgg (cs := [(Fl r78), (Fl r80), (Fl r82)]) (ev rfl) Try.isAgg26 Try.sizeOf26 (Cells.sub (Blk.cells (((((hB75.ext E108).wr W115 (Nat.ne_of_lt n111)).ext E121).ext E138).ext (KpL.toExt hu))) 0 3) rfl).mono ?_; rintro _ _ ⟨rfl, rfl⟩
        exact ⟨rfl, KpL.refl _ _⟩
      refine RW2_d (fun v144 => [(.slice p_pts L_pts.length q_pts), Ud, (Pt b2 0), (u69 3), (Pt b58 0), Ud, (Pt b105 0), (.slice p_pts L_pts.length q_pts), (Iv (L_pts.length : Int)), (Bo (inI (L_pts.length : Int) 1 256)), (Bo (!(inI (L_pts.length : Int) 1 256))), Ud, v32, v33, v34, v35, v36, v37, (.agg #[(Fl r46), (Fl r48), (Fl r50), (Fl r52), (Fl r54), (Fl r56)]), (.slice p_pts L_pts.length q_pts), (Iv (L_pts.length : Int)), (Iv (k : Int)), (Bo (icmp .lss (k : Int) (L_pts.length : Int))), (Pt b95 o96), (.agg #[(Fl r99), (Fl r101), (Fl r103)]), (.agg #[(Fl r99), (Fl r101), (Fl r103)]), (Bo (finV el2)), (Bo (!(finV el2))), (u69 28), v142, v143, v144, (u69 32), (u69 33), (u69 34), (u69 35), (u69 36), (u69 37), (u69 38), (u69 39), Ud]) rfl (fun _ => rfl) (fun u hu hF => ?_) (fun v144 => ?_)
      · replace hu : KpL [] _ _ := hu
        clear hF
        refine doesG_un rfl ?_
        refine (does_loadAgg (cs := [(Fl r99), (Fl r101), (Fl r103)]) (ev rfl) Try.isAgg26 Try.sizeOf26 (Blk.cells (((hB116.ext E121).ext E138).ext (KpL.toExt hu))) rfl).mono ?_; rintro _ _ ⟨rfl, rfl⟩
        exact ⟨rfl, KpL.refl _ _⟩
      refine RW2_d (fun v145 => [(.slice p_pts L_pts.length q_pts), Ud, (Pt b2 0), (u69 3), (Pt b58 0), Ud, (Pt b105 0), (.slice p_pts L_pts.length q_pts), (Iv (L_pts.length : Int)), (Bo (inI (L_pts.length : Int) 1 256)), (Bo (!(inI (L_pts.length : Int) 1 256))), Ud, v32, v33, v34, v35, v36, v37, (.agg #[(Fl r46), (Fl r48), (Fl r50), (Fl r52), (Fl r54), (Fl r56)]), (.slice p_pts L_pts.length q_pts), (Iv (L_pts.length : Int)), (Iv (k : Int)), (Bo (icmp .lss (k : Int) (L_pts.length : Int))), (Pt b95 o96), (.agg #[(Fl r99), (Fl r101), (Fl r103)]), (.agg #[(Fl r99), (Fl r101), (Fl r103)]), (Bo (finV el2)), (Bo (!(finV el2))), (u69 28), v142, v143, v144, v145, (u69 33), (u69 34), (u69 35), (u69 36), (u69 37), (u69 38), (u69 39), Ud]) rfl (fun _ => rfl) (fun u hu hF => ?_) (fun v145 => ?_)
      · replace hu : KpL [] _ _ := hu
        have h30_ : v143 = (.agg #[(Fl r78), (Fl r80), (Fl r82)]) := hF.1
        have h31_ : v144 = (.agg #[(Fl r99), (Fl r101), (Fl r103)]) := hF.2.1
        clear hF
        refine doesG_un rfl ?_
        obtain rfl := h30_
        obtain rfl := h31_
        refine (does_call (args := #[(.agg #[(Fl r78), (Fl r80), (Fl r82)]), (.agg #[(Fl r99), (Fl r101), (Fl r103)]), (.func (.func 59) #[] #[])]) cal58 (evs rfl) (c_impl_each [(Fl r78), (Fl r80), (Fl r82)] (boxTo L_pts k).lo [(Fl r99), (Fl r101), (Fl r103)] el2 (.func (.func 59) #[] #[]) (fun x y => fminL x y) _ ⟨r78, r80, r82, rfl, h79, h81, h83⟩ ⟨r99, r101, r103, rfl, h100, h102, h104⟩ ⟨59, #[], #[], rfl, cal59, fun r t u hu' => by simpa using (c_impl_lesser r t u)⟩)).mono ?_; rintro v u' ⟨hx, ⟨csn1, hv, k0⟩⟩
        exact ⟨⟨csn1, hv, k0⟩, (KpL.of_ext hx)⟩
      refine RW2_d (fun v146 => [(.slice p_pts L_pts.length q_pts), Ud, (Pt b2 0), (u69 3), (Pt b58 0), Ud, (Pt b105 0), (.slice p_pts L_pts.length q_pts), (Iv (L_pts.length : Int)), (Bo (inI (L_pts.length : Int) 1 256)), (Bo (!(inI (L_pts.length : Int) 1 256))), Ud, v32, v33, v34, v35, v36, v37, (.agg #[(Fl r46), (Fl r48), (Fl r50), (Fl r52), (Fl r54), (Fl r56)]), (.slice p_pts L_pts.length q_pts), (Iv (L_pts.length : Int)), (Iv (k : Int)), (Bo (icmp .lss (k : Int) (L_pts.length : Int))), (Pt b95 o96), (.agg #[(Fl r99), (Fl r101), (Fl r103)]), (.agg #[(Fl r99), (Fl r101), (Fl r103)]), (Bo (finV el2)), (Bo (!(finV el2))), (u69 28), v142, v143, v144, v145, v146, (u69 34), (u69 35), (u69 36), (u69 37), (u69 38), (u69 39), Ud]) rfl (fun _ => rfl) (fun u hu hF => ?_) (fun v146 => ?_)
      · replace hu : KpL [] _ _ := hu
        clear hF
        refine doesG_un rfl ?_
        refine (does_fieldAddr (ev rfl) fa28_1).mono ?_; rintro _ _ ⟨rfl, rfl⟩
        exact ⟨rfl, KpL.refl _ _⟩
      refine RW2_d (fun v147 => [(.slice p_pts L_pts.length q_pts), Ud, (Pt b2 0), (u69 3), (Pt b58 0), Ud, (Pt b105 0), (.slice p_pts L_pts.length q_pts), (Iv (L_pts.length : Int)), (Bo (inI (L_pts.length : Int) 1 256)), (Bo (!(inI (L_pts.length : Int) 1 256))), Ud, v32, v33, v34, v35, v36, v37, (.agg #[(Fl r46), (Fl r48), (Fl r50), (Fl r52), (Fl r54), (Fl r56)]), (.slice p_pts L_pts.length q_pts), (Iv (L_pts.length : Int)), (Iv (k : Int)), (Bo (icmp .lss (k : Int) (L_pts.length : Int))), (Pt b95 o96), (.agg #[(Fl r99), (Fl r101), (Fl r103)]), (.agg #[(Fl r99), (Fl r101), (Fl r103)]), (Bo (finV el2)), (Bo (!(finV el2))), (u69 28), v142, v143, v144, v145, v146, v147, (u69 35), (u69 36), (u69 37), (u69 38), (u69 39), Ud]) rfl (fun _ => rfl) (fun u hu hF => ?_) (fun v147 => ?_)
      · replace hu : KpL [] _ _ := hu
        have h33_ : v146 = (Pt b58 3) := hF.1
        clear hF
        refine doesG_un rfl ?_
        obtain rfl := h33_
        refine (does_loadAgg (cs := [(Fl r84), (Fl r86), (Fl r88)]) (ev rfl) Try.isAgg26 Try.sizeOf26 (Cells.sub (Blk.cells (((((hB75.ext E108).wr W115 (Nat.ne_of_lt n111)).ext E121).ext E138).ext (KpL.toExt hu))) 3 3) rfl).mono ?_; rintro _ _ ⟨rfl, rfl⟩
        exact ⟨rfl, KpL.refl _ _⟩
      refine RW2_d (fun v148 => [(.slice p_pts L_pts.length q_pts), Ud, (Pt b2 0), (u69 3), (Pt b58 0), Ud, (Pt b105 0), (.slice p_pts L_pts.length q_pts), (Iv (L_pts.length : Int)), (Bo (inI (L_pts.length : Int) 1 256)), (Bo (!(inI (L_pts.length : Int) 1 256))), Ud, v32, v33, v34, v35, v36, v37, (.agg #[(Fl r46), (Fl r48), (Fl r50), (Fl r52), (Fl r54), (Fl r56)]), (.slice p_pts L_pts.length q_pts), (Iv (L_pts.length : Int)), (Iv (k : Int)), (Bo (icmp .lss (k : Int) (L_pts.length : Int))), (Pt b95 o96), (.agg #[(Fl r99), (Fl r101), (Fl r103)]), (.agg #[(Fl r99), (Fl r101), (Fl r103)]), (Bo (finV el2)), (Bo (!(finV el2))), (u69 28), v142, v143, v144, v145, v146, v147, v148, (u69 36), (u69 37), (u69 38), (u69 39), Ud]) rfl (fun _ => rfl) (fun u hu hF => ?_) (fun v148 => ?_)
      · replace hu : KpL [] _ _ := hu
        clear hF
        refine doesG_un rfl ?_
        refine (does_loadAgg (cs := [(Fl r99), (Fl r101), (Fl r103)]) (ev rfl) Try.isAgg26 Try.sizeOf26 (Blk.cells (((hB116.ext E121).ext E138).ext (KpL.toExt hu))) rfl).mono ?_; rintro _ _ ⟨rfl, rfl⟩
        exact ⟨rfl, KpL.refl _ _⟩
      refine RW2_d (fun v149 => [(.slice p_pts L_pts.length q_pts), Ud, (Pt b2 0), (u69 3), (Pt b58 0), Ud, (Pt b105 0), (.slice p_pts L_pts.length q_pts), (Iv (L_pts.length : Int)), (Bo (inI (L_pts.length : Int) 1 256)), (Bo (!(inI (L_pts.length : Int) 1 256))), Ud, v32, v33, v34, v35, v36, v37, (.agg #[(Fl r46), (Fl r48), (Fl r50), (Fl r52), (Fl r54), (Fl r56)]), (.slice p_pts L_pts.length q_pts), (Iv (L_pts.length : Int)), (Iv (k : Int)), (Bo (icmp .lss (k : Int) (L_pts.length : Int))), (Pt b95 o96), (.agg #[(Fl r99), (Fl r101), (Fl r103)]), (.agg #[(Fl r99), (Fl r101), (Fl r103)]), (Bo (finV el2)), (Bo (!(finV el2))), (u69 28), v142, v143, v144, v145, v146, v147, v148, v149, (u69 37), (u69 38), (u69 39), Ud]) rfl (fun _ => rfl) (fun u hu hF => ?_) (fun v149 => ?_)
      · replace hu : KpL [] _ _ := hu
        have h34_ : v147 = (.agg #[(Fl r84), (Fl r86), (Fl r88)]) := hF.1
        have h35_ : v148 = (.agg #[(Fl r99), (Fl r101), (Fl r103)]) := hF.2.1
        clear hF
        refine doesG_un rfl ?_
        obtain rfl := h34_
        obtain rfl := h35_
        refine (does_call (args := #[(.agg #[(Fl r84), (Fl r86), (Fl r88)]), (.agg #[(Fl r99), (Fl r101), (Fl r103)]), (.func (.func 60) #[] #[])]) cal58 (evs rfl) (c_impl_each [(Fl r84), (Fl r86), (Fl r88)] (boxTo L_pts k).hi [(Fl r99), (Fl r101), (Fl r103)] el2 (.func (.func 60) #[] #[]) (fun x y => fmaxG x y) _ ⟨r84, r86, r88, rfl, h85, h87, h89⟩ ⟨r99, r101, r103, rfl, h100, h102, h104⟩ ⟨60, #[], #[], rfl, cal60, fun r t u hu' => by simpa using (c_impl_greater r t u)⟩)).mono ?_; rintro v u' ⟨hx, ⟨csn1, hv, k0⟩⟩
        exact ⟨⟨csn1, hv, k0⟩, (KpL.of_ext hx)⟩
      refine RW2_d (fun v150 => [(.slice p_pts L_pts.length q_pts), Ud, (Pt b2 0), (u69 3), (Pt b58 0), Ud, (Pt b105 0), (.slice p_pts L_pts.length q_pts), (Iv (L_pts.length : Int)), (Bo (inI (L_pts.length : Int) 1 256)), (Bo (!(inI (L_pts.length : Int) 1 256))), Ud, v32, v33, v34, v35, v36, v37, (.agg #[(Fl r46), (Fl r48), (Fl r50), (Fl r52), (Fl r54), (Fl r56)]), (.slice p_pts L_pts.length q_pts), (Iv (L_pts.length : Int)), (Iv (k : Int)), (Bo (icmp .lss (k : Int) (L_pts.length : Int))), (Pt b95 o96), (.agg #[(Fl r99), (Fl r101), (Fl r103)]), (.agg #[(Fl r99), (Fl r101), (Fl r103)]), (Bo (finV el2)), (Bo (!(finV el2))), (u69 28), v142, v143, v144, v145, v146, v147, v148, v149, v150, (u69 38), (u69 39), Ud]) rfl (fun _ => rfl) (fun u hu hF => ?_) (fun v150 => ?_)
      · replace hu : KpL [] _ _ := hu
        clear hF
        refine doesG_un rfl ?_
        refine (does_fieldAddr (ev rfl) fa28_0).mono ?_; rintro _ _ ⟨rfl, rfl⟩
        exact ⟨rfl, KpL.refl _ _⟩
      refine RW2_n rfl (fun u hu hF => ?_) (fun v151 => ?_)
      · replace hu : KpL [] _ _ := hu
        have h37_ : v150 = (Pt b58 0) := hF.1
        have h32_ : ∃ cs_1 : List Value, v145 = (.agg cs_1.toArray) ∧ RV3 w (v2 (fun x y => fminL x y) (boxTo L_pts k).lo el2) cs_1 := hF.2.1
        clear hF
        refine doesG_un rfl ?_
        obtain rfl := h37_
        obtain ⟨_, rfl, ⟨r32_1, r32_3, r32_5, rfl, h32_2, h32_4, h32_6⟩⟩ := h32_
        refine (does_store (n := 3) (cs := [(Fl r78), (Fl r80), (Fl r82), (Fl r84), (Fl r86), (Fl r88)]) (u := (.agg #[(Fl r32_1), (Fl r32_3), (Fl r32_5)])) (ev rfl) (ev rfl) Try.sizeOf26 rfl (((((hB75.ext E108).wr W115 (Nat.ne_of_lt n111)).ext E121).ext E138).ext (KpL.toExt hu)) (Nat.le_of_ble_eq_true rfl) rfl).mono ?_; rintro _ _ ⟨rfl, hW, hB⟩
        exact ⟨⟨rfl, r32_1, r32_3, r32_5, hB, (by simp only [h32_2, h32_4, h32_6]), (by simp only [h32_2, h32_4, h32_6]), (by simp only [h32_2, h32_4, h32_6])⟩, KpL.of_wr hW⟩
      refine RW2_d (fun v152 => [(.slice p_pts L_pts.length q_pts), Ud, (Pt b2 0), (u69 3), (Pt b58 0), Ud, (Pt b105 0), (.slice p_pts L_pts.length q_pts), (Iv (L_pts.length : Int)), (Bo (inI (L_pts.length : Int) 1 256)), (Bo (!(inI (L_pts.length : Int) 1 256))), Ud, v32, v33, v34, v35, v36, v37, (.agg #[(Fl r46), (Fl r48), (Fl r50), (Fl r52), (Fl r54), (Fl r56)]), (.slice p_pts L_pts.length q_pts), (Iv (L_pts.length : Int)), (Iv (k : Int)), (Bo (icmp .lss (k : Int) (L_pts.length : Int))), (Pt b95 o96), (.agg #[(Fl r99), (Fl r101), (Fl r103)]), (.agg #[(Fl r99), (Fl r101), (Fl r103)]), (Bo (finV el2)), (Bo (!(finV el2))), (u69 28), v142, v143, v144, v145, v146, v147, v148, v149, v150, v152, (u69 39), Ud]) rfl (fun _ => rfl) (fun u hu hF => ?_) (fun v152 => ?_)
      · replace hu : KpL [b58] _ _ := hu
        clear hF
        refine doesG_un rfl ?_
        refine (does_fieldAddr (ev rfl) fa28_1).mono ?_; rintro _ _ ⟨rfl, rfl⟩
        exact ⟨rfl, KpL.refl _ _⟩
      refine RW2_n rfl (fun u hu hF => ?_) (fun v153 => ?_)
      · replace hu : KpL [b58] _ _ := hu
        obtain ⟨_, rs9_1, rs9_2, rs9_3, hs9_, es9_0, es9_1, es9_2⟩ := hF.1
        have h38_ : v152 = (Pt b58 3) := hF.2.1
        have h36_ : ∃ cs_1 : List Value, v149 = (.agg cs_1.toArray) ∧ RV3 w (v2 (fun x y => fmaxG x y) (boxTo L_pts k).hi el2) cs_1 := hF.2.2.1
        clear hF
        refine doesG_un rfl ?_
        obtain rfl := h38_
        obtain ⟨_, rfl, ⟨r36_1, r36_3, r36_5, rfl, h36_2, h36_4, h36_6⟩⟩ := h36_
        refine (does_store (n := 3) (cs := [(Fl rs9_1), (Fl rs9_2), (Fl rs9_3), (Fl r84), (Fl r86), (Fl r88)]) (u := (.agg #[(Fl r36_1), (Fl r36_3), (Fl r36_5)])) (ev rfl) (ev rfl) Try.sizeOf26 rfl hs9_ (Nat.le_of_ble_eq_true rfl) rfl).mono ?_; rintro _ _ ⟨rfl, hW, hB⟩
        exact ⟨⟨rfl, rs9_1, rs9_2, rs9_3, r36_1, r36_3, r36_5, hB, (by simp only [es9_0, es9_1, es9_2, h36_2, h36_4, h36_6]), (by simp only [es9_0, es9_1, es9_2, h36_2, h36_4, h36_6]), (by simp only [es9_0, es9_1, es9_2, h36_2, h36_4, h36_6]), (by simp only [es9_0, es9_1, es9_2, h36_2, h36_4, h36_6]), (by simp only [es9_0, es9_1, es9_2, h36_2, h36_4, h36_6]), (by simp only [es9_0, es9_1, es9_2, h36_2, h36_4, h36_6])⟩, KpL.of_wr hW⟩
      refine RW2_fin ?_; intro w154 E155 hP156; replace E155 : KpL [b58] _ _ := E155
      obtain ⟨⟨⟨⟨⟨⟨⟨⟨⟨⟨⟨⟨-, -⟩, -⟩, -⟩, -⟩, -⟩, -⟩, -⟩, -⟩, -⟩, -⟩, -⟩, q157⟩ := hP156
      have X158 := Below.kl X141 E155 (allS g62 all0) (Nat.le_refl _)
      obtain ⟨_, r160, r161, r162, r163, r164, r165, hB159, h166, h167, h168, h169, h170, h171⟩ := q157 rfl
      change Blk _ _ [(Fl r160), (Fl r161), (Fl r162), (Fl r163), (Fl r164), (Fl r165)] at hB159
      show wpList _ _ _ _ (fr [(.slice p_pts L_pts.length q_pts), Ud, (Pt b2 0), (u69 3), (Pt b58 0), Ud, (Pt b105 0), (.slice p_pts L_pts.length q_pts), (Iv (L_pts.length : Int)), (Bo (inI (L_pts.length : Int) 1 256)), (Bo (!(inI (L_pts.length : Int) 1 256))), Ud, v32, v33, v34, v35, v36, v37, (.agg #[(Fl r46), (Fl r48), (Fl r50), (Fl r52), (Fl r54), (Fl r56)]), (.slice p_pts L_pts.length q_pts), (Iv (L_pts.length : Int)), (Iv (k : Int)), (Bo (icmp .lss (k : Int) (L_pts.length : Int))), (Pt b95 o96), (.agg #[(Fl r99), (Fl r101), (Fl r103)]), (.agg #[(Fl r99), (Fl r101), (Fl r103)]), (Bo (finV el2)), (Bo (!(finV el2))), (u69 28), v142, v143, v144, v145, v146, v147, v148, v149, v150, v152, (u69 39), Ud]) _
      refine wpList_nil (hK93 _ _ ?_)
      refine wp_region_lit ?_
      refine q_is (l' := [(.slice p_pts L_pts.length q_pts), Ud, (Pt b2 0), (u69 3), (Pt b58 0), Ud, (Pt b105 0), (.slice p_pts L_pts.length q_pts), (Iv (L_pts.length : Int)), (Bo (inI (L_pts.length : Int) 1 256)), (Bo (!(inI (L_pts.length : Int) 1 256))), Ud, v32, v33, v34, v35, v36, v37, (.agg #[(Fl r46), (Fl r48), (Fl r50), (Fl r52), (Fl r54), (Fl r56)]), (.slice p_pts L_pts.length q_pts), (Iv (L_pts.length : Int)), (Iv (k : Int)), (Bo (icmp .lss (k : Int) (L_pts.length : Int))), (Pt b95 o96), (.agg #[(Fl r99), (Fl r101), (Fl r103)]), (.agg #[(Fl r99), (Fl r101), (Fl r103)]), (Bo (finV el2)), (Bo (!(finV el2))), (u69 28), v142, v143, v144, v145, v146, v147, v148, v149, v150, v152, (Iv ((k : Int) + 1)), Ud]) rfl rfl (does_iarith (p := (k : Int)) (q := 1) (r := (k : Int) + 1) (ev rfl) (ev rfl) (.inl ⟨rfl, (in_i64 (by omega) (by omega)).symm⟩)) rfl ?_
      refine q_is (l' := [(.slice p_pts L_pts.length q_pts), Ud, (Pt b2 0), (u69 3), (Pt b58 0), Ud, (Pt b105 0), (.slice p_pts L_pts.length q_pts), (Iv (L_pts.length : Int)), (Bo (inI (L_pts.length : Int) 1 256)), (Bo (!(inI (L_pts.length : Int) 1 256))), Ud, v32, v33, v34, v35, v36, v37, (.agg #[(Fl r46), (Fl r48), (Fl r50), (Fl r52), (Fl r54), (Fl r56)]), (.slice p_pts L_pts.length q_pts), (Iv (L_pts.length : Int)), (Iv ((k : Int) + 1)), (Bo (icmp .lss (k : Int) (L_pts.length : Int))), (Pt b95 o96), (.agg #[(Fl r99), (Fl r101), (Fl r103)]), (.agg #[(Fl r99), (Fl r101), (Fl r103)]), (Bo (finV el2)), (Bo (!(finV el2))), (u69 28), v142, v143, v144, v145, v146, v147, v148, v149, v150, v152, (Iv ((k : Int) + 1)), Ud]) rfl rfl (does_move (u := (Iv ((k : Int) + 1))) (ev rfl)) rfl ?_
      refine wpList_nil ?_
      have hO172 : ∃ cs, Blk w154 b58 cs ∧ RBx w154 ((fun (k : Nat) => boxTo L_pts k) (k + 1)) cs := by
        refine ⟨[(Fl r160), (Fl r161), (Fl r162), (Fl r163), (Fl r164), (Fl r165)], hB159, ⟨r160, r161, r162, r163, r164, r165, ?_, ?_, ?_, ?_, ?_, ?_, ?_⟩⟩
        all_goals first | with_reducible rfl | (dsimp only; simp only [v2, vmin, vmax, hel1, h47, h49, h51, h53, h55, h57, h79, h81, h83, h85, h87, h89, hel2, h100, h102, h104, h166, h167, h168, h169, h170, h171]; done) | (simp only [boxTo_succ (by assumption), vmin, vmax, v2, v2, vmin, vmax, hel1, h47, h49, h51, h53, h55, h57, h79, h81, h83, h85, h87, h89, hel2, h100, h102, h104, h166, h167, h168, h169, h170, h171])
      refine ⟨k + 1, ⟨fun t => (([(.slice p_pts L_pts.length q_pts), Ud, (Pt b2 0), (u69 3), (Pt b58 0), Ud, (Pt b105 0), (.slice p_pts L_pts.length q_pts), (Iv (L_pts.length : Int)), (Bo (inI (L_pts.length : Int) 1 256)), (Bo (!(inI (L_pts.length : Int) 1 256))), Ud, v32, v33, v34, v35, v36, v37, (.agg #[(Fl r46), (Fl r48), (Fl r50), (Fl r52), (Fl r54), (Fl r56)]), (.slice p_pts L_pts.length q_pts), (Iv (L_pts.length : Int)), (Iv ((k : Int) + 1)), (Bo (icmp .lss (k : Int) (L_pts.length : Int))), (Pt b95 o96), (.agg #[(Fl r99), (Fl r101), (Fl r103)]), (.agg #[(Fl r99), (Fl r101), (Fl r103)]), (Bo (finV el2)), (Bo (!(finV el2))), (u69 28), v142, v143, v144, v145, v146, v147, v148, v149, v150, v152, (Iv ((k : Int) + 1)), Ud] : List Value)[t]?).getD undef, ?_, (KpL.more (KpL.ext (KpL.ext (KpL.more (KpL.ext E72 E108) (KpL.of_wr W115) (allS (.inr (Nat.le_trans E72.size hb106)) all0)) E121) E138) E155 (allS (.inl (by simp)) all0)), hO172, ?_⟩, ?_⟩
      · first | rfl | (simp only [Nat.cast_add, Nat.cast_one, Int.natCast_add, Int.natCast_one]; rfl)
      · exact ⟨by omega, AllTo.step hal (by assumption) (by assumption)⟩
      · omega
    have c92' := c92
    (try simp only [inI] at c92')
    (try simp only [icmp, Bool.and_eq_true, Bool.or_eq_true, Bool.and_eq_false_iff, Bool.or_eq_false_iff, Bool.not_eq_true', Bool.not_eq_false', decide_eq_true_eq, decide_eq_false_iff_not, beq_iff_eq, bne_iff_ne, beq_eq_false_iff_ne, bne_eq_false_iff_eq] at c92')
    refine wp_exit ?_
    refine hK67 _ _ ?_
    refine wp_seq_k fun K173 hK173 => ?_
    refine wp_region_lit ?_
    refine q_is (l' := [(.slice p_pts L_pts.length q_pts), Ud, (Pt b2 0), (u69 3), (Pt b58 0), Ud, (u69 6), (.slice p_pts L_pts.length q_pts), (Iv (L_pts.length : Int)), (Bo (inI (L_pts.length : Int) 1 256)), (Bo (!(inI (L_pts.length : Int) 1 256))), Ud, v32, v33, v34, v35, v36, v37, (.agg #[(Fl r46), (Fl r48), (Fl r50), (Fl r52), (Fl r54), (Fl r56)]), (.slice p_pts L_pts.length q_pts), (Iv (L_pts.length : Int)), (Iv (k : Int)), (Bo (icmp .lss (k : Int) (L_pts.length : Int))), (u69 23), (u69 24), (u69 25), (u69 26), (u69 27), (u69 28), (u69 29), (u69 30), (u69 31), (u69 32), (u69 33), (u69 34), (u69 35), (u69 36), (u69 37), (u69 38), (u69 39), (.agg #[(Fl r78), (Fl r80), (Fl r82), (Fl r84), (Fl r86), (Fl r88)])]) rfl rfl (does_loadAgg (cs := [(Fl r78), (Fl r80), (Fl r82), (Fl r84), (Fl r86), (Fl r88)]) (ev rfl) Try.isAgg28 Try.sizeOf28 (Blk.cells hB75) rfl) rfl ?_
    refine seqn rfl rfl (does_store (n := 6) (cs := [(Fl 0), (Fl 0), (Fl 0), (Fl 0), (Fl 0), (Fl 0)]) (u := (.agg #[(Fl r78), (Fl r80), (Fl r82), (Fl r84), (Fl r86), (Fl r88)])) (ev rfl) (ev rfl) Try.sizeOf28 rfl (((((hB4.ext E11).ext E29).ext E41).wr W63 (Nat.ne_of_lt n61)).kl E72 (ninS (Nat.ne_of_lt n61) nin0)) (Nat.le_of_ble_eq_true rfl) rfl) ?_; rintro _ w176 ⟨rfl, W174, hB175⟩
    change Blk _ _ [(Fl r78), (Fl r80), (Fl r82), (Fl r84), (Fl r86), (Fl r88)] at hB175
    have X177 := Below.wr X77 W174 g7
    refine q_is (l' := [(.slice p_pts L_pts.length q_pts), Ud, (Pt b2 0), (Bo true), (Pt b58 0), Ud, (u69 6), (.slice p_pts L_pts.length q_pts), (Iv (L_pts.length : Int)), (Bo (inI (L_pts.length : Int) 1 256)), (Bo (!(inI (L_pts.length : Int) 1 256))), Ud, v32, v33, v34, v35, v36, v37, (.agg #[(Fl r46), (Fl r48), (Fl r50), (Fl r52), (Fl r54), (Fl r56)]), (.slice p_pts L_pts.length q_pts), (Iv (L_pts.length : Int)), (Iv (k : Int)), (Bo (icmp .lss (k : Int) (L_pts.length : Int))), (u69 23), (u69 24), (u69 25), (u69 26), (u69 27), (u69 28), (u69 29), (u69 30), (u69 31), (u69 32), (u69 33), (u69 34), (u69 35), (u69 36), (u69 37), (u69 38), (u69 39), (.agg #[(Fl r78), (Fl r80), (Fl r82), (Fl r84), (Fl r86), (Fl r88)])]) rfl rfl (does_assign (u := (Bo true)) (ev rfl)) rfl ?_
    refine wpList_nil (hK173 _ _ ?_)
    refine wp_ret ?_
    refine ret_val (v := (.tuple #[(.agg #[(Fl r78), (Fl r80), (Fl r82), (Fl r84), (Fl r86), (Fl r88)]), (Bo true)])) (res_CT rfl (slot rfl) (run_loadAgg (cs := [(Fl r78), (Fl r80), (Fl r82), (Fl r84), (Fl r86), (Fl r88)]) Try.isAgg28 Try.sizeOf28 (Blk.cells hB175) rfl) (slot rfl)) X177 ?_
    try simp only [hel1, h47, h49, h51, h53, h55, h57, h79, h81, h83, h85, h87, h89] at c14 c92
    have x178 : (bxOk L_pts) = true := by first | exact bxOk_len (by assumption) | exact bxOk_len2 (by assumption) | exact bxOk_bad (by assumption) (by assumption) | exact bxOk_ok1 (by assumption) hal (by omega) | exact bxOk_ok2 (by assumption) hal (by omega) | (rw [bxOk_len (by assumption)]; simp only [gvA_f, zB, zV]; done) | (rw [bxOk_len2 (by assumption)]; simp only [gvA_f, zB, zV]; done) | (rw [bxOk_bad (by assumption) (by assumption)]; simp only [gvA_f, zB, zV]; done) | (rw [bxOk_ok1 (by assumption) hal (by omega), gvA_t, show L_pts.length = k by omega]; assumption) | (rw [bxOk_ok2 (by assumption) hal (by omega), gvA_t, show L_pts.length = k by omega]; assumption)
    have x179 : cf .f32 r78 = (gvA zB (bxOk L_pts) (boxTo L_pts L_pts.length)).lo.x := by first | exact bxOk_len (by assumption) | exact bxOk_len2 (by assumption) | exact bxOk_bad (by assumption) (by assumption) | exact bxOk_ok1 (by assumption) hal (by omega) | exact bxOk_ok2 (by assumption) hal (by omega) | (rw [bxOk_len (by assumption)]; simp only [gvA_f, zB, zV]; done) | (rw [bxOk_len2 (by assumption)]; simp only [gvA_f, zB, zV]; done) | (rw [bxOk_bad (by assumption) (by assumption)]; simp only [gvA_f, zB, zV]; done) | (rw [bxOk_ok1 (by assumption) hal (by omega), gvA_t, show L_pts.length = k by omega]; assumption) | (rw [bxOk_ok2 (by assumption) hal (by omega), gvA_t, show L_pts.length = k by omega]; assumption)
    have x180 : cf .f32 r80 = (gvA zB (bxOk L_pts) (boxTo L_pts L_pts.length)).lo.y := by first | exact bxOk_len (by assumption) | exact bxOk_len2 (by assumption) | exact bxOk_bad (by assumption) (by assumption) | exact bxOk_ok1 (by assumption) hal (by omega) | exact bxOk_ok2 (by assumption) hal (by omega) | (rw [bxOk_len (by assumption)]; simp only [gvA_f, zB, zV]; done) | (rw [bxOk_len2 (by assumption)]; simp only [gvA_f, zB, zV]; done) | (rw [bxOk_bad (by assumption) (by assumption)]; simp only [gvA_f, zB, zV]; done) | (rw [bxOk_ok1 (by assumption) hal (by omega), gvA_t, show L_pts.length = k by omega]; assumption) | (rw [bxOk_ok2 (by assumption) hal (by omega), gvA_t, show L_pts.length = k by omega]; assumption)
    have x181 : cf .f32 r82 = (gvA zB (bxOk L_pts) (boxTo L_pts L_pts.length)).lo.z := by first | exact bxOk_len (by assumption) | exact bxOk_len2 (by assumption) | exact bxOk_bad (by assumption) (by assumption) | exact bxOk_ok1 (by assumption) hal (by omega) | exact bxOk_ok2 (by assumption) hal (by omega) | (rw [bxOk_len (by assumption)]; simp only [gvA_f, zB, zV]; done) | (rw [bxOk_len2 (by assumption)]; simp only [gvA_f, zB, zV]; done) | (rw [bxOk_bad (by assumption) (by assumption)]; simp only [gvA_f, zB, zV]; done) | (rw [bxOk_ok1 (by assumption) hal (by omega), gvA_t, show L_pts.length = k by omega]; assumption) | (rw [bxOk_ok2 (by assumption) hal (by omega), gvA_t, show L_pts.length = k by omega]; assumption)
    have x182 : cf .f32 r84 = (gvA zB (bxOk L_pts) (boxTo L_pts L_pts.length)).hi.x := by first | exact bxOk_len (by assumption) | exact bxOk_len2 (by assumption) | exact bxOk_bad (by assumption) (by assumption) | exact bxOk_ok1 (by assumption) hal (by omega) | exact bxOk_ok2 (by assumption) hal (by omega) | (rw [bxOk_len (by assumption)]; simp only [gvA_f, zB, zV]; done) | (rw [bxOk_len2 (by assumption)]; simp only [gvA_f, zB, zV]; done) | (rw [bxOk_bad (by assumption) (by assumption)]; simp only [gvA_f, zB, zV]; done) | (rw [bxOk_ok1 (by assumption) hal (by omega), gvA_t, show L_pts.length = k by omega]; assumption) | (rw [bxOk_ok2 (by assumption) hal (by omega), gvA_t, show L_pts.length = k by omega]; assumption)
    have x183 : cf .f32 r86 = (gvA zB (bxOk L_pts) (boxTo L_pts L_pts.length)).hi.y := by first | exact bxOk_len (by assumption) | exact bxOk_len2 (by assumption) | exact bxOk_bad (by assumption) (by assumption) | exact bxOk_ok1 (by assumption) hal (by omega) | exact bxOk_ok2 (by assumption) hal (by omega) | (rw [bxOk_len (by assumption)]; simp only [gvA_f, zB, zV]; done) | (rw [bxOk_len2 (by assumption)]; simp only [gvA_f, zB, zV]; done) | (rw [bxOk_bad (by assumption) (by assumption)]; simp only [gvA_f, zB, zV]; done) | (rw [bxOk_ok1 (by assumption) hal (by omega), gvA_t, show L_pts.length = k by omega]; assumption) | (rw [bxOk_ok2 (by assumption) hal (by omega), gvA_t, show L_pts.length = k by omega]; assumption)
    have x184 : cf .f32 r88 = (gvA zB (bxOk L_pts) (boxTo L_pts L_pts.length)).hi.z := by first | exact bxOk_len (by assumption) | exact bxOk_len2 (by assumption) | exact bxOk_bad (by assumption) (by assumption) | exact bxOk_ok1 (by assumption) hal (by omega) | exact bxOk_ok2 (by assumption) hal (by omega) | (rw [bxOk_len (by assumption)]; simp only [gvA_f, zB, zV]; done) | (rw [bxOk_len2 (by assumption)]; simp only [gvA_f, zB, zV]; done) | (rw [bxOk_bad (by assumption) (by assumption)]; simp only [gvA_f, zB, zV]; done) | (rw [bxOk_ok1 (by assumption) hal (by omega), gvA_t, show L_pts.length = k by omega]; assumption) | (rw [bxOk_ok2 (by assumption) hal (by omega), gvA_t, show L_pts.length = k by omega]; assumption)
    exact ⟨[(Fl r78), (Fl r80), (Fl r82), (Fl r84), (Fl r86), (Fl r88)], (by first | rfl | rw [x178]), ⟨r78, r80, r82, r84, r86, r88, rfl, x179, x180, x181, x182, x183, x184⟩⟩

/- laws.sameFloat -/
theorem c_laws_sameFloat (x : Nat) (y : Nat) (w : World) : Gives Try.prog 45 #[(Fd x), (Fd y)] w (fun v w' => v = (Bo (sameF (cf .f64 x) (cf .f64 y)))) := by
  refine enter [(Fd x), (Fd y), Ud, Ud, Ud, Ud, Ud, Ud, Ud, Ud, Ud, Ud, Ud, Ud, Ud, Ud, Ud, Ud, Ud, Ud, Ud, Ud, Ud, Ud, Ud, Ud, Ud, Ud, Ud, Ud, Ud, Ud, Ud, Ud, Ud, Ud, Ud] Try.func45 rfl Try.ntmps45 rfl ?_
  refine wp_seq_k fun K1 hK1 => ?_
  refine wp_region_lit ?_
  refine q_is (l' := [(Fd x), (Fd y), Ud, Ud, (Bo false), Ud, Ud, Ud, Ud, Ud, Ud, Ud, Ud, Ud, Ud, Ud, Ud, Ud, Ud, Ud, Ud, Ud, Ud, Ud, Ud, Ud, Ud, Ud, Ud, Ud, Ud, Ud, Ud, Ud, Ud, Ud, Ud]) rfl rfl (does_assign (u := (Bo false)) (ev rfl)) rfl ?_
  refine wpList_nil (hK1 _ _ ?_)
  refine wp_seq_k fun K2 hK2 => ?_
  refine wp_seq_k fun K3 hK3 => ?_
  obtain ⟨β1, hβ1⟩ : ∃ b : Bool, b = (fcmp .neq (ford .f64 (cf .f64 x) (cf .f64 x))) := ⟨_, rfl⟩
  obtain ⟨β2, hβ2⟩ : ∃ b : Bool, b = (fcmp .neq (ford .f64 (cf .f64 y) (cf .f64 y))) := ⟨_, rfl⟩
  refine region_text (
    [Fact.pure [] (fun v => v = (Fd x)),
    Fact.pure [] (fun v => v = (Fd x)),
    Fact.pure [5, 6] (fun v => v = (Bo β1)),
    Fact.pure [7] (fun v => v = (Bo β1)),
    Fact.pure [8] (fun v => β1 = false → v = (Fd y)),
    Fact.pure [8] (fun v => β1 = false → v = (Fd y)),
    Fact.pure [9, 10, 8] (fun v => β1 = false → v = (Bo β2)),
    Fact.pure [8, 11] (fun v => v = (Bo (β1 || β2)))]) (by simp [Fact.pure, Fact.mem]) ?_
  refine RW_d (fun v4 => [(Fd x), (Fd y), Ud, Ud, (Bo false), v4, Ud, Ud, Ud, Ud, Ud, Ud, Ud, Ud, Ud, Ud, Ud, Ud, Ud, Ud, Ud, Ud, Ud, Ud, Ud, Ud, Ud, Ud, Ud, Ud, Ud, Ud, Ud, Ud, Ud, Ud, Ud]) rfl (fun _ => rfl) (fun u hu hF => ?_) (fun v4 => ?_)
  · clear hF
    refine doesG_un rfl ?_
    refine (does_move (u := (Fd x)) (ev rfl)).mono ?_; rintro _ _ ⟨rfl, rfl⟩
    exact ⟨rfl, Ext.refl _⟩
  refine RW_d (fun v5 => [(Fd x), (Fd y), Ud, Ud, (Bo false), v4, v5, Ud, Ud, Ud, Ud, Ud, Ud, Ud, Ud, Ud, Ud, Ud, Ud, Ud, Ud, Ud, Ud, Ud, Ud, Ud, Ud, Ud, Ud, Ud, Ud, Ud, Ud, Ud, Ud, Ud, Ud]) rfl (fun _ => rfl) (fun u hu hF => ?_) (fun v5 => ?_)
  · clear hF
    refine doesG_un rfl ?_
    refine (does_move (u := (Fd x)) (ev rfl)).mono ?_; rintro _ _ ⟨rfl, rfl⟩
    exact ⟨rfl, Ext.refl _⟩
  refine RW_d (fun v6 => [(Fd x), (Fd y), Ud, Ud, (Bo false), v4, v5, v6, Ud, Ud, Ud, Ud, Ud, Ud, Ud, Ud, Ud, Ud, Ud, Ud, Ud, Ud, Ud, Ud, Ud, Ud, Ud, Ud, Ud, Ud, Ud, Ud, Ud, Ud, Ud, Ud, Ud]) rfl (fun _ => rfl) (fun u hu hF => ?_) (fun v6 => ?_)
  · have h5_ : v4 = (Fd x) := hF.1
    have h6_ : v5 = (Fd x) := hF.2.1
    clear hF
    refine doesG_un rfl ?_
    obtain rfl := h5_
    obtain rfl := h6_
    refine (does_fcmp (.inr (.inl rfl)) (ev rfl) (ev rfl)).mono ?_; rintro _ _ ⟨rfl, rfl⟩
    exact ⟨(by first | rfl | (show _ = _; simp only [hβ1])), Ext.refl _⟩
  refine RW_d (fun v7 => [(Fd x), (Fd y), Ud, Ud, (Bo false), v4, v5, v6, v7, Ud, Ud, Ud, Ud, Ud, Ud, Ud, Ud, Ud, Ud, Ud, Ud, Ud, Ud, Ud, Ud, Ud, Ud, Ud, Ud, Ud, Ud, Ud, Ud, Ud, Ud, Ud, Ud]) rfl (fun _ => rfl) (fun u hu hF => ?_) (fun v7 => ?_)
  · have h7_ : v6 = (Bo β1) := hF.1
    clear hF
    refine doesG_un rfl ?_
    obtain rfl := h7_
    refine (does_move (u := (Bo β1)) (ev rfl)).mono ?_; rintro _ _ ⟨rfl, rfl⟩
    exact ⟨rfl, Ext.refl _⟩
  refine RW_d (fun v8 => [(Fd x), (Fd y), Ud, Ud, (Bo false), v4, v5, v6, v7, v8, Ud, Ud, Ud, Ud, Ud, Ud, Ud, Ud, Ud, Ud, Ud, Ud, Ud, Ud, Ud, Ud, Ud, Ud, Ud, Ud, Ud, Ud, Ud, Ud, Ud, Ud, Ud]) rfl (fun _ => rfl) (fun u hu hF => ?_) (fun v8 => ?_)
  · have h8_ : v7 = (Bo β1) := hF.1
    clear hF
    obtain rfl := h8_
    refine doesG_g (b := β1) rfl (yld rfl rfl) (fun hg1 => ?_) (fun hc => ⟨fun hg1 => absurd hg1 hc, Ext.refl _⟩)
    refine (does_move (u := (Fd y)) (ev rfl)).mono ?_; rintro _ _ ⟨rfl, rfl⟩
    exact ⟨fun _ => rfl, Ext.refl _⟩
  refine RW_d (fun v9 => [(Fd x), (Fd y), Ud, Ud, (Bo false), v4, v5, v6, v7, v8, v9, Ud, Ud, Ud, Ud, Ud, Ud, Ud, Ud, Ud, Ud, Ud, Ud, Ud, Ud, Ud, Ud, Ud, Ud, Ud, Ud, Ud, Ud, Ud, Ud, Ud, Ud]) rfl (fun _ => rfl) (fun u hu hF => ?_) (fun v9 => ?_)
  · have h8_ : v7 = (Bo β1) := hF.1
    clear hF
    obtain rfl := h8_
    refine doesG_g (b := β1) rfl (yld rfl rfl) (fun hg1 => ?_) (fun hc => ⟨fun hg1 => absurd hg1 hc, Ext.refl _⟩)
    refine (does_move (u := (Fd y)) (ev rfl)).mono ?_; rintro _ _ ⟨rfl, rfl⟩
    exact ⟨fun _ => rfl, Ext.refl _⟩
  refine RW_d (fun v10 => [(Fd x), (Fd y), Ud, Ud, (Bo false), v4, v5, v6, v7, v8, v9, v10, Ud, Ud, Ud, Ud, Ud, Ud, Ud, Ud, Ud, Ud, Ud, Ud, Ud, Ud, Ud, Ud, Ud, Ud, Ud, Ud, Ud, Ud, Ud, Ud, Ud]) rfl (fun _ => rfl) (fun u hu hF => ?_) (fun v10 => ?_)
  · have h9_ : β1 = false → v8 = (Fd y) := hF.1
    have h10_ : β1 = false → v9 = (Fd y) := hF.2.1
    have h8_ : v7 = (Bo β1) := hF.2.2.1
    clear hF
    obtain rfl := h8_
    refine doesG_g (b := β1) rfl (yld rfl rfl) (fun hg1 => ?_) (fun hc => ⟨fun hg1 => absurd hg1 hc, Ext.refl _⟩)
    obtain rfl := h9_ hg1
    obtain rfl := h10_ hg1
    refine (does_fcmp (.inr (.inl rfl)) (ev rfl) (ev rfl)).mono ?_; rintro _ _ ⟨rfl, rfl⟩
    exact ⟨fun _ => (by first | rfl | (show _ = _; simp only [hβ2])), Ext.refl _⟩
  refine RW_d (fun v11 => [(Fd x), (Fd y), Ud, Ud, (Bo false), v4, v5, v6, v7, v8, v9, v10, v11, Ud, Ud, Ud, Ud, Ud, Ud, Ud, Ud, Ud, Ud, Ud, Ud, Ud, Ud, Ud, Ud, Ud, Ud, Ud, Ud, Ud, Ud, Ud, Ud]) rfl (fun _ => rfl) (fun u hu hF => ?_) (fun v11 => ?_)
  · have h8_ : v7 = (Bo β1) := hF.1
    have h11_ : β1 = false → v10 = (Bo β2) := hF.2.1
    clear hF
    refine doesG_un rfl ?_
    skip
    obtain rfl := h8_
    refine (does_pick (b := β1) (ev rfl) (ev rfl) (ev rfl)).mono ?_; rintro _ _ ⟨rfl, rfl⟩; refine ⟨?_, Ext.refl _⟩; skip
    cases hbb : β1 <;> simp [hbb] at h11_ ⊢
    all_goals (first | rfl | (subst h11_; rfl) | simp_all)
  refine RW_fin ?_; intro w12 E13 hP14
  obtain ⟨⟨⟨⟨⟨⟨⟨⟨-, -⟩, -⟩, -⟩, -⟩, -⟩, -⟩, -⟩, q15⟩ := hP14
  have X16 := Ext.gr (Ext.refl w) E13
  have q15 : v11 = (Bo (β1 || β2)) := q15
  obtain rfl := q15
  show wpList _ _ _ _ (fr [(Fd x), (Fd y), Ud, Ud, (Bo false), v4, v5, v6, v7, v8, v9, v10, (Bo (β1 || β2)), Ud, Ud, Ud, Ud, Ud, Ud, Ud, Ud, Ud, Ud, Ud, Ud, Ud, Ud, Ud, Ud, Ud, Ud, Ud, Ud, Ud, Ud, Ud, Ud]) _
  refine wpList_nil (hK3 _ _ ?_)
  refine wp_cond_split (t := β1 || β2) (ev rfl) (fun c17 => ?_) (fun c17 => ?_)
  · have c17' := c17
    (try simp only [hβ1, hβ2] at c17')
    (try simp only [icmp, Bool.and_eq_true, Bool.or_eq_true, Bool.and_eq_false_iff, Bool.or_eq_false_iff, Bool.not_eq_true', Bool.not_eq_false', decide_eq_true_eq, decide_eq_false_iff_not, beq_iff_eq, bne_iff_ne, beq_eq_false_iff_ne, bne_eq_false_iff_eq] at c17')
    refine wp_seq_k fun K18 hK18 => ?_
    obtain ⟨β3, hβ3⟩ : ∃ b : Bool, b = (fcmp .neq (ford .f64 (cf .f64 x) (cf .f64 x))) := ⟨_, rfl⟩
    obtain ⟨β4, hβ4⟩ : ∃ b : Bool, b = (fcmp .neq (ford .f64 (cf .f64 y) (cf .f64 y))) := ⟨_, rfl⟩
    refine region_text (
      [Fact.pure [] (fun v => v = (Fd x)),
    Fact.pure [] (fun v => v = (Fd x)),
    Fact.pure [13, 14] (fun v => v = (Bo β3)),
    Fact.pure [15] (fun v => v = (Bo β3)),
    Fact.pure [16] (fun v => β3 = true → v = (Fd y)),
    Fact.pure [16] (fun v => β3 = true → v = (Fd y)),
    Fact.pure [17, 18, 16] (fun v => β3 = true → v = (Bo β4)),
    Fact.pure [16, 19] (fun v => v = (Bo (β3 && β4)))]) (by simp [Fact.pure, Fact.mem]) ?_
    refine RW_d (fun v19 => [(Fd x), (Fd y), Ud, Ud, (Bo false), v4, v5, v6, v7, v8, v9, v10, (Bo (β1 || β2)), v19, Ud, Ud, Ud, Ud, Ud, Ud, Ud, Ud, Ud, Ud, Ud, Ud, Ud, Ud, Ud, Ud, Ud, Ud, Ud, Ud, Ud, Ud, Ud]) rfl (fun _ => rfl) (fun u hu hF => ?_) (fun v19 => ?_)
    · clear hF
      refine doesG_un rfl ?_
      refine (does_move (u := (Fd x)) (ev rfl)).mono ?_; rintro _ _ ⟨rfl, rfl⟩
      exact ⟨rfl, Ext.refl _⟩
    refine RW_d (fun v20 => [(Fd x), (Fd y), Ud, Ud, (Bo false), v4, v5, v6, v7, v8, v9, v10, (Bo (β1 || β2)), v19, v20, Ud, Ud, Ud, Ud, Ud, Ud, Ud, Ud, Ud, Ud, Ud, Ud, Ud, Ud, Ud, Ud, Ud, Ud, Ud, Ud, Ud, Ud]) rfl (fun _ => rfl) (fun u hu hF => ?_) (fun v20 => ?_)
    · clear hF
      refine doesG_un rfl ?_
      refine (does_move (u := (Fd x)) (ev rfl)).mono ?_; rintro _ _ ⟨rfl, rfl⟩
      exact ⟨rfl, Ext.refl _⟩
    refine RW_d (fun v21 => [(Fd x), (Fd y), Ud, Ud, (Bo false), v4, v5, v6, v7, v8, v9, v10, (Bo (β1 || β2)), v19, v20, v21, Ud, Ud, Ud, Ud, Ud, Ud, Ud, Ud, Ud, Ud, Ud, Ud, Ud, Ud, Ud, Ud, Ud, Ud, Ud, Ud, Ud]) rfl (fun _ => rfl) (fun u hu hF => ?_) (fun v21 => ?_)
    · have h13_ : v19 = (Fd x) := hF.1
      have h14_ : v20 = (Fd x) := hF.2.1
      clear hF
      refine doesG_un rfl ?_
      obtain rfl := h13_
      obtain rfl := h14_
      refine (does_fcmp (.inr (.inl rfl)) (ev rfl) (ev rfl)).mono ?_; rintro _ _ ⟨rfl, rfl⟩
      exact ⟨(by first | rfl | (show _ = _; simp only [hβ3])), Ext.refl _⟩
    refine RW_d (fun v22 => [(Fd x), (Fd y), Ud, Ud, (Bo false), v4, v5, v6, v7, v8, v9, v10, (Bo (β1 || β2)), v19, v20, v21, v22, Ud, Ud, Ud, Ud, Ud, Ud, Ud, Ud, Ud, Ud, Ud, Ud, Ud, Ud, Ud, Ud, Ud, Ud, Ud, Ud]) rfl (fun _ => rfl) (fun u hu hF => ?_) (fun v22 => ?_)
    · have h15_ : v21 = (Bo β3) := hF.1
      clear hF
      refine doesG_un rfl ?_
      obtain rfl := h15_
      refine (does_move (u := (Bo β3)) (ev rfl)).mono ?_; rintro _ _ ⟨rfl, rfl⟩
      exact ⟨rfl, Ext.refl _⟩
    refine RW_d (fun v23 => [(Fd x), (Fd y), Ud, Ud, (Bo false), v4, v5, v6, v7, v8, v9, v10, (Bo (β1 || β2)), v19, v20, v21, v22, v23, Ud, Ud, Ud, Ud, Ud, Ud, Ud, Ud, Ud, Ud, Ud, Ud, Ud, Ud, Ud, Ud, Ud, Ud, Ud]) rfl (fun _ => rfl) (fun u hu hF => ?_) (fun v23 => ?_)
    · have h16_ : v22 = (Bo β3) := hF.1
      clear hF
      obtain rfl := h16_
      refine doesG_g (b := β3) rfl (yld rfl rfl) (fun hg1 => ?_) (fun hc => ⟨fun hg1 => absurd hg1 hc, Ext.refl _⟩)
      refine (does_move (u := (Fd y)) (ev rfl)).mono ?_; rintro _ _ ⟨rfl, rfl⟩
      exact ⟨fun _ => rfl, Ext.refl _⟩
    refine RW_d (fun v24 => [(Fd x), (Fd y), Ud, Ud, (Bo false), v4, v5, v6, v7, v8, v9, v10, (Bo (β1 || β2)), v19, v20, v21, v22, v23, v24, Ud, Ud, Ud, Ud, Ud, Ud, Ud, Ud, Ud, Ud, Ud, Ud, Ud, Ud, Ud, Ud, Ud, Ud]) rfl (fun _ => rfl) (fun u hu hF => ?_) (fun v24 => ?_)
    · have h16_ : v22 = (Bo β3) := hF.1
      clear hF
      obtain rfl := h16_
      refine doesG_g (b := β3) rfl (yld rfl rfl) (fun hg1 => ?_) (fun hc => ⟨fun hg1 => absurd hg1 hc, Ext.refl _⟩)
      refine (does_move (u := (Fd y)) (ev rfl)).mono ?_; rintro _ _ ⟨rfl, rfl⟩
      exact ⟨fun _ => rfl, Ext.refl _⟩
    refine RW_d (fun v25 => [(Fd x), (Fd y), Ud, Ud, (Bo false), v4, v5, v6, v7, v8, v9, v10, (Bo (β1 || β2)), v19, v20, v21, v22, v23, v24, v25, Ud, Ud, Ud, Ud, Ud, Ud, Ud, Ud, Ud, Ud, Ud, Ud, Ud, Ud, Ud, Ud, Ud]) rfl (fun _ => rfl) (fun u hu hF => ?_) (fun v25 => ?_)
    · have h17_ : β3 = true → v23 = (Fd y) := hF.1
      have h18_ : β3 = true → v24 = (Fd y) := hF.2.1
      have h16_ : v22 = (Bo β3) := hF.2.2.1
      clear hF
      obtain rfl := h16_
      refine doesG_g (b := β3) rfl (yld rfl rfl) (fun hg1 => ?_) (fun hc => ⟨fun hg1 => absurd hg1 hc, Ext.refl _⟩)
      obtain rfl := h17_ hg1
      obtain rfl := h18_ hg1
      refine (does_fcmp (.inr (.inl rfl)) (ev rfl) (ev rfl)).mono ?_; rintro _ _ ⟨rfl, rfl⟩
      exact ⟨fun _ => (by first | rfl | (show _ = _; simp only [hβ4])), Ext.refl _⟩
    refine RW_d (fun v26 => [(Fd x), (Fd y), Ud, Ud, (Bo false), v4, v5, v6, v7, v8, v9, v10, (Bo (β1 || β2)), v19, v20, v21, v22, v23, v24, v25, v26, Ud, Ud, Ud, Ud, Ud, Ud, Ud, Ud, Ud, Ud, Ud, Ud, Ud, Ud, Ud, Ud]) rfl (fun _ => rfl) (fun u hu hF => ?_) (fun v26 => ?_)
    · have h16_ : v22 = (Bo β3) := hF.1
      have h19_ : β3 = true → v25 = (Bo β4) := hF.2.1
      clear hF
      refine doesG_un rfl ?_
      skip
      obtain rfl := h16_
      refine (does_pick (b := β3) (ev rfl) (ev rfl) (ev rfl)).mono ?_; rintro _ _ ⟨rfl, rfl⟩; refine ⟨?_, Ext.refl _⟩; skip
      cases hbb : β3 <;> simp [hbb] at h19_ ⊢
      all_goals (first | rfl | (subst h19_; rfl) | simp_all)
    refine RW_fin ?_; intro w27 E28 hP29
    obtain ⟨⟨⟨⟨⟨⟨⟨⟨-, -⟩, -⟩, -⟩, -⟩, -⟩, -⟩, -⟩, q30⟩ := hP29
    have X31 := Ext.gr X16 E28
    have q30 : v26 = (Bo (β3 && β4)) := q30
    obtain rfl := q30
    show wpList _ _ _ _ (fr [(Fd x), (Fd y), Ud, Ud, (Bo false), v4, v5, v6, v7, v8, v9, v10, (Bo (β1 || β2)), v19, v20, v21, v22, v23, v24, v25, (Bo (β3 && β4)), Ud, Ud, Ud, Ud, Ud, Ud, Ud, Ud, Ud, Ud, Ud, Ud, Ud, Ud, Ud, Ud]) _
    refine q_is (l' := [(Fd x), (Fd y), Ud, Ud, (Bo (β3 && β4)), v4, v5, v6, v7, v8, v9, v10, (Bo (β1 || β2)), v19, v20, v21, v22, v23, v24, v25, (Bo (β3 && β4)), Ud, Ud, Ud, Ud, Ud, Ud, Ud, Ud, Ud, Ud, Ud, Ud, Ud, Ud, Ud, Ud]) rfl rfl (does_assign (u := (Bo (β3 && β4))) (ev rfl)) rfl ?_
    refine wpList_nil (hK18 _ _ ?_)
    refine wp_ret ?_
    dsimp only [Exit.then, Exit.inBlock]
    refine ret_val (v := (Bo (β3 && β4))) (res_T rfl (slot rfl)) X31 ?_
    try simp only [hβ1, hβ2, hβ3, hβ4] at c17
    have x32 : (sameF (cf .f64 x) (cf .f64 y)) = (β3 && β4) := by first | with_reducible rfl | (simp only [sameF, hβ1, hβ2, hβ3, hβ4, c17]; done) | (simp [sameF, hβ1, hβ2, hβ3, hβ4, c17]; done) | (revert c17; simp +contextual [sameF, hβ1, hβ2, hβ3, hβ4]; done) | (rcases c17' with hh | hh <;> simp only [hh, sameF, hβ1, hβ2, hβ3, hβ4, c17]; done) | (rcases c17' with hh | hh <;> simp_all [sameF]; done) | (rcases c17' with hh | hh | hh <;> simp_all [sameF]; done) | (rcases c17' with hh | hh | hh | hh <;> simp_all [sameF]; done) | (simp_all [sameF]; done) | rfl
    exact (by first | rfl | rw [x32])
  have c17' := c17
  (try simp only [hβ1, hβ2] at c17')
  (try simp only [icmp, Bool.and_eq_true, Bool.or_eq_true, Bool.and_eq_false_iff, Bool.or_eq_false_iff, Bool.not_eq_true', Bool.not_eq_false', decide_eq_true_eq, decide_eq_false_iff_not, beq_iff_eq, bne_iff_ne, beq_eq_false_iff_ne, bne_eq_false_iff_eq] at c17')
  refine wp_skip (hK2 _ _ ?_)
  refine wp_seq_k fun K33 hK33 => ?_
  refine wp_seq_k fun K34 hK34 => ?_
  obtain ⟨β5, hβ5⟩ : ∃ b : Bool, b = (fcmp .eql (ford .f64 (cf .f64 x) (cf .f64 0))) := ⟨_, rfl⟩
  obtain ⟨β6, hβ6⟩ : ∃ b : Bool, b = (fcmp .eql (ford .f64 (cf .f64 y) (cf .f64 0))) := ⟨_, rfl⟩
  refine region_text (
    [Fact.pure [] (fun v => v = (Fd x)),
    Fact.pure [21] (fun v => v = (Bo β5)),
    Fact.pure [22] (fun v => v = (Bo β5)),
    Fact.pure [23] (fun v => β5 = true → v = (Fd y)),
    Fact.pure [24, 23] (fun v => β5 = true → v = (Bo β6)),
    Fact.pure [23, 25] (fun v => v = (Bo (β5 && β6)))]) (by simp [Fact.pure, Fact.mem]) ?_
  refine RW_d (fun v35 => [(Fd x), (Fd y), Ud, Ud, (Bo false), v4, v5, v6, v7, v8, v9, v10, (Bo (β1 || β2)), Ud, Ud, Ud, Ud, Ud, Ud, Ud, Ud, v35, Ud, Ud, Ud, Ud, Ud, Ud, Ud, Ud, Ud, Ud, Ud, Ud, Ud, Ud, Ud]) rfl (fun _ => rfl) (fun u hu hF => ?_) (fun v35 => ?_)
  · clear hF
    refine doesG_un rfl ?_
    refine (does_move (u := (Fd x)) (ev rfl)).mono ?_; rintro _ _ ⟨rfl, rfl⟩
    exact ⟨rfl, Ext.refl _⟩
  refine RW_d (fun v36 => [(Fd x), (Fd y), Ud, Ud, (Bo false), v4, v5, v6, v7, v8, v9, v10, (Bo (β1 || β2)), Ud, Ud, Ud, Ud, Ud, Ud, Ud, Ud, v35, v36, Ud, Ud, Ud, Ud, Ud, Ud, Ud, Ud, Ud, Ud, Ud, Ud, Ud, Ud]) rfl (fun _ => rfl) (fun u hu hF => ?_) (fun v36 => ?_)
  · have h21_ : v35 = (Fd x) := hF.1
    clear hF
    refine doesG_un rfl ?_
    obtain rfl := h21_
    refine (does_fcmp (.inl rfl) (ev rfl) (ev rfl)).mono ?_; rintro _ _ ⟨rfl, rfl⟩
    exact ⟨(by first | rfl | (show _ = _; simp only [hβ5])), Ext.refl _⟩
  refine RW_d (fun v37 => [(Fd x), (Fd y), Ud, Ud, (Bo false), v4, v5, v6, v7, v8, v9, v10, (Bo (β1 || β2)), Ud, Ud, Ud, Ud, Ud, Ud, Ud, Ud, v35, v36, v37, Ud, Ud, Ud, Ud, Ud, Ud, Ud, Ud, Ud, Ud, Ud, Ud, Ud]) rfl (fun _ => rfl) (fun u hu hF => ?_) (fun v37 => ?_)
  · have h22_ : v36 = (Bo β5) := hF.1
    clear hF
    refine doesG_un rfl ?_
    obtain rfl := h22_
    refine (does_move (u := (Bo β5)) (ev rfl)).mono ?_; rintro _ _ ⟨rfl, rfl⟩
    exact ⟨rfl, Ext.refl _⟩
  refine RW_d (fun v38 => [(Fd x), (Fd y), Ud, Ud, (Bo false), v4, v5, v6, v7, v8, v9, v10, (Bo (β1 || β2)), Ud, Ud, Ud, Ud, Ud, Ud, Ud, Ud, v35, v36, v37, v38, Ud, Ud, Ud, Ud, Ud, Ud, Ud, Ud, Ud, Ud, Ud, Ud]) rfl (fun _ => rfl) (fun u hu hF => ?_) (fun v38 => ?_)
  · have h23_ : v37 = (Bo β5) := hF.1
    clear hF
    obtain rfl := h23_
    refine doesG_g (b := β5) rfl (yld rfl rfl) (fun hg1 => ?_) (fun hc => ⟨fun hg1 => absurd hg1 hc, Ext.refl _⟩)
    refine (does_move (u := (Fd y)) (ev rfl)).mono ?_; rintro _ _ ⟨rfl, rfl⟩
    exact ⟨fun _ => rfl, Ext.refl _⟩
  refine RW_d (fun v39 => [(Fd x), (Fd y), Ud, Ud, (Bo false), v4, v5, v6, v7, v8, v9, v10, (Bo (β1 || β2)), Ud, Ud, Ud, Ud, Ud, Ud, Ud, Ud, v35, v36, v37, v38, v39, Ud, Ud, Ud, Ud, Ud, Ud, Ud, Ud, Ud, Ud, Ud]) rfl (fun _ => rfl) (fun u hu hF => ?_) (fun v39 => ?_)
  · have h24_ : β5 = true → v38 = (Fd y) := hF.1
    have h23_ : v37 = (Bo β5) := hF.2.1
    clear hF
    obtain rfl := h23_
    refine doesG_g (b := β5) rfl (yld rfl rfl) (fun hg1 => ?_) (fun hc => ⟨fun hg1 => absurd hg1 hc, Ext.refl _⟩)
    obtain rfl := h24_ hg1
    refine (does_fcmp (.inl rfl) (ev rfl) (ev rfl)).mono ?_; rintro _ _ ⟨rfl, rfl⟩
    exact ⟨fun _ => (by first | rfl | (show _ = _; simp only [hβ6])), Ext.refl _⟩
  refine RW_d (fun v40 => [(Fd x), (Fd y), Ud, Ud, (Bo false), v4, v5, v6, v7, v8, v9, v10, (Bo (β1 || β2)), Ud, Ud, Ud, Ud, Ud, Ud, Ud, Ud, v35, v36, v37, v38, v39, v40, Ud, Ud, Ud, Ud, Ud, Ud, Ud, Ud, Ud, Ud]) rfl (fun _ => rfl) (fun u hu hF => ?_) (fun v40 => ?_)
  · have h23_ : v37 = (Bo β5) := hF.1
    have h25_ : β5 = true → v39 = (Bo β6) := hF.2.1
    clear hF
    refine doesG_un rfl ?_
    skip
    obtain rfl := h23_
    refine (does_pick (b := β5) (ev rfl) (ev rfl) (ev rfl)).mono ?_; rintro _ _ ⟨rfl, rfl⟩; refine ⟨?_, Ext.refl _⟩; skip
    cases hbb : β5 <;> simp [hbb] at h25_ ⊢
    all_goals (first | rfl | (subst h25_; rfl) | simp_all)
  refine RW_fin ?_; intro w41 E42 hP43
  obtain ⟨⟨⟨⟨⟨⟨-, -⟩, -⟩, -⟩, -⟩, -⟩, q44⟩ := hP43
  have X45 := Ext.gr X16 E42
  have q44 : v40 = (Bo (β5 && β6)) := q44
  obtain rfl := q44
  show wpList _ _ _ _ (fr [(Fd x), (Fd y), Ud, Ud, (Bo false), v4, v5, v6, v7, v8, v9, v10, (Bo (β1 || β2)), Ud, Ud, Ud, Ud, Ud, Ud, Ud, Ud, v35, v36, v37, v38, v39, (Bo (β5 && β6)), Ud, Ud, Ud, Ud, Ud, Ud, Ud, Ud, Ud, Ud]) _
  refine wpList_nil (hK34 _ _ ?_)
  refine wp_cond_split (t := β5 && β6) (ev rfl) (fun c46 => ?_) (fun c46 => ?_)
  · have c46' := c46
    (try simp only [hβ1, hβ2, hβ5, hβ6] at c46')
    (try simp only [icmp, Bool.and_eq_true, Bool.or_eq_true, Bool.and_eq_false_iff, Bool.or_eq_false_iff, Bool.not_eq_true', Bool.not_eq_false', decide_eq_true_eq, decide_eq_false_iff_not, beq_iff_eq, bne_iff_ne, beq_eq_false_iff_ne, bne_eq_false_iff_eq] at c46')
    refine wp_seq_k fun K47 hK47 => ?_
    refine wp_region_lit ?_
    refine q_is (l' := [(Fd x), (Fd y), Ud, Ud, (Bo false), v4, v5, v6, v7, v8, v9, v10, (Bo (β1 || β2)), Ud, Ud, Ud, Ud, Ud, Ud, Ud, Ud, v35, v36, v37, v38, v39, (Bo (β5 && β6)), (Fd x), Ud, Ud, Ud, Ud, Ud, Ud, Ud, Ud, Ud]) rfl rfl (does_move (u := (Fd x)) (ev rfl)) rfl ?_
    refine seqd rfl rfl (does_float (.inr (.inr (.inr rfl))) (ev rfl) (ev rfl)) ?_; rintro _ w51 ⟨r48, rfl, h49, E50⟩
    have X52 := Ext.gr X45 E50
    show wpList _ _ _ _ (fr [(Fd x), (Fd y), Ud, Ud, (Bo false), v4, v5, v6, v7, v8, v9, v10, (Bo (β1 || β2)), Ud, Ud, Ud, Ud, Ud, Ud, Ud, Ud, v35, v36, v37, v38, v39, (Bo (β5 && β6)), (Fd x), (Fd r48), Ud, Ud, Ud, Ud, Ud, Ud, Ud, Ud]) _
    refine q_is (l' := [(Fd x), (Fd y), Ud, Ud, (Bo false), v4, v5, v6, v7, v8, v9, v10, (Bo (β1 || β2)), Ud, Ud, Ud, Ud, Ud, Ud, Ud, Ud, v35, v36, v37, v38, v39, (Bo (β5 && β6)), (Fd x), (Fd r48), (Bo (fcmp .gtr (ford .f64 (cf .f64 r48) (cf .f64 0)))), Ud, Ud, Ud, Ud, Ud, Ud, Ud]) rfl rfl (does_fcmp (.inr (.inr (.inr (.inr (.inl rfl))))) (ev rfl) (ev rfl)) rfl ?_
    refine q_is (l' := [(Fd x), (Fd y), Ud, Ud, (Bo false), v4, v5, v6, v7, v8, v9, v10, (Bo (β1 || β2)), Ud, Ud, Ud, Ud, Ud, Ud, Ud, Ud, v35, v36, v37, v38, v39, (Bo (β5 && β6)), (Fd x), (Fd r48), (Bo (fcmp .gtr (ford .f64 (cf .f64 r48) (cf .f64 0)))), (Fd y), Ud, Ud, Ud, Ud, Ud, Ud]) rfl rfl (does_move (u := (Fd y)) (ev rfl)) rfl ?_
    refine seqd rfl rfl (does_float (.inr (.inr (.inr rfl))) (ev rfl) (ev rfl)) ?_; rintro _ w56 ⟨r53, rfl, h54, E55⟩
    have X57 := Ext.gr X52 E55
    show wpList _ _ _ _ (fr [(Fd x), (Fd y), Ud, Ud, (Bo false), v4, v5, v6, v7, v8, v9, v10, (Bo (β1 || β2)), Ud, Ud, Ud, Ud, Ud, Ud, Ud, Ud, v35, v36, v37, v38, v39, (Bo (β5 && β6)), (Fd x), (Fd r48), (Bo (fcmp .gtr (ford .f64 (cf .f64 r48) (cf .f64 0)))), (Fd y), (Fd r53), Ud, Ud, Ud, Ud, Ud]) _
    refine q_is (l' := [(Fd x), (Fd y), Ud, Ud, (Bo false), v4, v5, v6, v7, v8, v9, v10, (Bo (β1 || β2)), Ud, Ud, Ud, Ud, Ud, Ud, Ud, Ud, v35, v36, v37, v38, v39, (Bo (β5 && β6)), (Fd x), (Fd r48), (Bo (fcmp .gtr (ford .f64 (cf .f64 r48) (cf .f64 0)))), (Fd y), (Fd r53), (Bo (fcmp .gtr (ford .f64 (cf .f64 r53) (cf .f64 0)))), Ud, Ud, Ud, Ud]) rfl rfl (does_fcmp (.inr (.inr (.inr (.inr (.inl rfl))))) (ev rfl) (ev rfl)) rfl ?_
    refine q_is (l' := [(Fd x), (Fd y), Ud, Ud, (Bo false), v4, v5, v6, v7, v8, v9, v10, (Bo (β1 || β2)), Ud, Ud, Ud, Ud, Ud, Ud, Ud, Ud, v35, v36, v37, v38, v39, (Bo (β5 && β6)), (Fd x), (Fd r48), (Bo (fcmp .gtr (ford .f64 (cf .f64 r48) (cf .f64 0)))), (Fd y), (Fd r53), (Bo (fcmp .gtr (ford .f64 (cf .f64 r53) (cf .f64 0)))), (Bo ((fcmp .gtr (ford .f64 (cf .f64 r48) (cf .f64 0))) == (fcmp .gtr (ford .f64 (cf .f64 r53) (cf .f64 0))))), Ud, Ud, Ud]) rfl rfl (does_beq (p := (fcmp .gtr (ford .f64 (cf .f64 r48) (cf .f64 0)))) (q := (fcmp .gtr (ford .f64 (cf .f64 r53) (cf .f64 0)))) Try.underlying4 (ev rfl) (ev rfl)) rfl ?_
    refine q_is (l' := [(Fd x), (Fd y), Ud, Ud, (Bo ((fcmp .gtr (ford .f64 (cf .f64 r48) (cf .f64 0))) == (fcmp .gtr (ford .f64 (cf .f64 r53) (cf .f64 0))))), v4, v5, v6, v7, v8, v9, v10, (Bo (β1 || β2)), Ud, Ud, Ud, Ud, Ud, Ud, Ud, Ud, v35, v36, v37, v38, v39, (Bo (β5 && β6)), (Fd x), (Fd r48), (Bo (fcmp .gtr (ford .f64 (cf .f64 r48) (cf .f64 0)))), (Fd y), (Fd r53), (Bo (fcmp .gtr (ford .f64 (cf .f64 r53) (cf .f64 0)))), (Bo ((fcmp .gtr (ford .f64 (cf .f64 r48) (cf .f64 0))) == (fcmp .gtr (ford .f64 (cf .f64 r53) (cf .f64 0))))), Ud, Ud, Ud]) rfl rfl (does_assign (u := (Bo ((fcmp .gtr (ford .f64 (cf .f64 r48) (cf .f64 0))) == (fcmp .gtr (ford .f64 (cf .f64 r53) (cf .f64 0)))))) (ev rfl)) rfl ?_
    refine wpList_nil (hK47 _ _ ?_)
    refine wp_ret ?_
    dsimp only [Exit.then, Exit.inBlock]
    refine ret_val (v := (Bo ((fcmp .gtr (ford .f64 (cf .f64 r48) (cf .f64 0))) == (fcmp .gtr (ford .f64 (cf .f64 r53) (cf .f64 0)))))) (res_T rfl (slot rfl)) X57 ?_
    try simp only [hβ1, hβ2, hβ5, hβ6, h49, h54] at c17 c46
    have x58 : (sameF (cf .f64 x) (cf .f64 y)) = ((fcmp .gtr (ford .f64 (cf .f64 r48) (cf .f64 0))) == (fcmp .gtr (ford .f64 (cf .f64 r53) (cf .f64 0)))) := by first | with_reducible rfl | (simp only [sameF, hβ1, hβ2, hβ5, hβ6, h49, h54, c17, c46]; done) | (simp [sameF, hβ1, hβ2, hβ5, hβ6, h49, h54, c17, c46]; done) | (revert c17 c46; simp +contextual [sameF, hβ1, hβ2, hβ5, hβ6, h49, h54]; done) | (rcases c17' with hh | hh <;> simp only [hh, sameF, hβ1, hβ2, hβ5, hβ6, h49, h54, c17, c46]; done) | (rcases c46' with hh | hh <;> simp only [hh, sameF, hβ1, hβ2, hβ5, hβ6, h49, h54, c17, c46]; done) | (rcases c46' with hh | hh <;> simp_all [sameF]; done) | (rcases c46' with hh | hh | hh <;> simp_all [sameF]; done) | (rcases c46' with hh | hh | hh | hh <;> simp_all [sameF]; done) | (simp_all [sameF]; done) | rfl
    exact (by first | rfl | rw [x58])
  have c46' := c46
  (try simp only [hβ1, hβ2, hβ5, hβ6] at c46')
  (try simp only [icmp, Bool.and_eq_true, Bool.or_eq_true, Bool.and_eq_false_iff, Bool.or_eq_false_iff, Bool.not_eq_true', Bool.not_eq_false', decide_eq_true_eq, decide_eq_false_iff_not, beq_iff_eq, bne_iff_ne, beq_eq_false_iff_ne, bne_eq_false_iff_eq] at c46')
  refine wp_skip (hK33 _ _ ?_)
  refine wp_seq_k fun K59 hK59 => ?_
  refine wp_region_lit ?_
  refine q_is (l' := [(Fd x), (Fd y), Ud, Ud, (Bo false), v4, v5, v6, v7, v8, v9, v10, (Bo (β1 || β2)), Ud, Ud, Ud, Ud, Ud, Ud, Ud, Ud, v35, v36, v37, v38, v39, (Bo (β5 && β6)), Ud, Ud, Ud, Ud, Ud, Ud, Ud, (Fd x), Ud, Ud]) rfl rfl (does_move (u := (Fd x)) (ev rfl)) rfl ?_
  refine q_is (l' := [(Fd x), (Fd y), Ud, Ud, (Bo false), v4, v5, v6, v7, v8, v9, v10, (Bo (β1 || β2)), Ud, Ud, Ud, Ud, Ud, Ud, Ud, Ud, v35, v36, v37, v38, v39, (Bo (β5 && β6)), Ud, Ud, Ud, Ud, Ud, Ud, Ud, (Fd x), (Fd y), Ud]) rfl rfl (does_move (u := (Fd y)) (ev rfl)) rfl ?_
  refine q_is (l' := [(Fd x), (Fd y), Ud, Ud, (Bo false), v4, v5, v6, v7, v8, v9, v10, (Bo (β1 || β2)), Ud, Ud, Ud, Ud, Ud, Ud, Ud, Ud, v35, v36, v37, v38, v39, (Bo (β5 && β6)), Ud, Ud, Ud, Ud, Ud, Ud, Ud, (Fd x), (Fd y), (Bo (fcmp .eql (ford .f64 (cf .f64 x) (cf .f64 y))))]) rfl rfl (does_fcmp (.inl rfl) (ev rfl) (ev rfl)) rfl ?_
  refine q_is (l' := [(Fd x), (Fd y), Ud, Ud, (Bo (fcmp .eql (ford .f64 (cf .f64 x) (cf .f64 y)))), v4, v5, v6, v7, v8, v9, v10, (Bo (β1 || β2)), Ud, Ud, Ud, Ud, Ud, Ud, Ud, Ud, v35, v36, v37, v38, v39, (Bo (β5 && β6)), Ud, Ud, Ud, Ud, Ud, Ud, Ud, (Fd x), (Fd y), (Bo (fcmp .eql (ford .f64 (cf .f64 x) (cf .f64 y))))]) rfl rfl (does_assign (u := (Bo (fcmp .eql (ford .f64 (cf .f64 x) (cf .f64 y))))) (ev rfl)) rfl ?_
  refine wpList_nil (hK59 _ _ ?_)
  refine wp_ret ?_
  refine ret_val (v := (Bo (fcmp .eql (ford .f64 (cf .f64 x) (cf .f64 y))))) (res_T rfl (slot rfl)) X45 ?_
  try simp only [hβ1, hβ2, hβ5, hβ6] at c17 c46
  have x60 : (sameF (cf .f64 x) (cf .f64 y)) = (fcmp .eql (ford .f64 (cf .f64 x) (cf .f64 y))) := by first | with_reducible rfl | (simp only [sameF, hβ1, hβ2, hβ5, hβ6, c17, c46]; done) | (simp [sameF, hβ1, hβ2, hβ5, hβ6, c17, c46]; done) | (revert c17 c46; simp +contextual [sameF, hβ1, hβ2, hβ5, hβ6]; done) | (rcases c17' with hh | hh <;> simp only [hh, sameF, hβ1, hβ2, hβ5, hβ6, c17, c46]; done) | (rcases c46' with hh | hh <;> simp only [hh, sameF, hβ1, hβ2, hβ5, hβ6, c17, c46]; done) | (rcases c46' with hh | hh <;> simp_all [sameF]; done) | (rcases c46' with hh | hh | hh <;> simp_all [sameF]; done) | (rcases c46' with hh | hh | hh | hh <;> simp_all [sameF]; done) | (simp_all [sameF]; done) | rfl
  exact (by first | rfl | rw [x60])

/- laws.eqVector -/
theorem c_laws_eqVector (a : List Value) (A_a : V3) (b : List Value) (A_b : V3) (w : World) (hv_a : RV3 w A_a a) (hv_b : RV3 w A_b b) : Gives Try.prog 33 #[(.agg a.toArray), (.agg b.toArray)] w (fun v w' => v = (Bo (sameV A_a A_b))) := by
  obtain ⟨r1, r3, r5, rfl, h2, h4, h6⟩ := hv_a
  obtain ⟨r7, r9, r11, rfl, h8, h10, h12⟩ := hv_b
  refine enter [(.agg #[(Fl r1), (Fl r3), (Fl r5)]), (.agg #[(Fl r7), (Fl r9), (Fl r11)]), Ud, Ud, Ud, Ud, Ud, Ud, Ud, Ud, Ud, Ud, Ud, Ud, Ud, Ud, Ud, Ud, Ud, Ud, Ud, Ud, Ud, Ud, Ud, Ud, Ud, Ud, Ud] Try.func33 rfl Try.ntmps33 rfl ?_
  refine wp_seq_k fun K13 hK13 => ?_
  refine wp_region_lit ?_
  refine seqd rfl rfl (does_box (u := (.agg #[(Fl r1), (Fl r3), (Fl r5)])) (ev rfl)) ?_; rintro _ w18 ⟨b14, rfl, hb15, hB16, E17⟩
  have g19 : w.heap.size ≤ b14 := Nat.le_trans (Below.size (Ext.refl w)) hb15
  change Blk _ _ [(Fl r1), (Fl r3), (Fl r5)] at hB16
  have X20 := Ext.gr (Ext.refl w) E17
  show wpList _ _ _ _ (fr [(.agg #[(Fl r1), (Fl r3), (Fl r5)]), (.agg #[(Fl r7), (Fl r9), (Fl r11)]), (Pt b14 0), Ud, Ud, Ud, Ud, Ud, Ud, Ud, Ud, Ud, Ud, Ud, Ud, Ud, Ud, Ud, Ud, Ud, Ud, Ud, Ud, Ud, Ud, Ud, Ud, Ud, Ud]) _
  refine seqd rfl rfl (does_box (u := (.agg #[(Fl r7), (Fl r9), (Fl r11)])) (ev rfl)) ?_; rintro _ w25 ⟨b21, rfl, hb22, hB23, E24⟩
  have n26 : b14 < b21 := Nat.lt_of_lt_of_le (Blk.lt hB16) hb22
  have g27 : w.heap.size ≤ b21 := Nat.le_trans (Below.size X20) hb22
  change Blk _ _ [(Fl r7), (Fl r9), (Fl r11)] at hB23
  have X28 := Ext.gr X20 E24
  show wpList _ _ _ _ (fr [(.agg #[(Fl r1), (Fl r3), (Fl r5)]), (.agg #[(Fl r7), (Fl r9), (Fl r11)]), (Pt b14 0), (Pt b21 0), Ud, Ud, Ud, Ud, Ud, Ud, Ud, Ud, Ud, Ud, Ud, Ud, Ud, Ud, Ud, Ud, Ud, Ud, Ud, Ud, Ud, Ud, Ud, Ud, Ud]) _
  refine q_is (l' := [(.agg #[(Fl r1), (Fl r3), (Fl r5)]), (.agg #[(Fl r7), (Fl r9), (Fl r11)]), (Pt b14 0), (Pt b21 0), (Bo false), Ud, Ud, Ud, Ud, Ud, Ud, Ud, Ud, Ud, Ud, Ud, Ud, Ud, Ud, Ud, Ud, Ud, Ud, Ud, Ud, Ud, Ud, Ud, Ud]) rfl rfl (does_assign (u := (Bo false)) (ev rfl)) rfl ?_
  refine wpList_nil (hK13 _ _ ?_)
  refine wp_seq_k fun K29 hK29 => ?_
  refine wp_seq_k fun K30 hK30 => ?_
  refine wp_region_lit ?_
  refine q_is (l' := [(.agg #[(Fl r1), (Fl r3), (Fl r5)]), (.agg #[(Fl r7), (Fl r9), (Fl r11)]), (Pt b14 0), (Pt b21 0), (Bo false), (Pt b14 0), Ud, Ud, Ud, Ud, Ud, Ud, Ud, Ud, Ud, Ud, Ud, Ud, Ud, Ud, Ud, Ud, Ud, Ud, Ud, Ud, Ud, Ud, Ud]) rfl rfl (does_fieldAddr (ev rfl) fa26_0) rfl ?_
  refine q_is (l' := [(.agg #[(Fl r1), (Fl r3), (Fl r5)]), (.agg #[(Fl r7), (Fl r9), (Fl r11)]), (Pt b14 0), (Pt b21 0), (Bo false), (Pt b14 0), (Fl r1), Ud, Ud, Ud, Ud, Ud, Ud, Ud, Ud, Ud, Ud, Ud, Ud, Ud, Ud, Ud, Ud, Ud, Ud, Ud, Ud, Ud, Ud]) rfl rfl (does_load (u := (Fl r1)) (ev rfl) Try.isAgg24 (Cells.at (Blk.cells (hB16.ext E24)) 0 rfl)) rfl ?_
  refine seqd rfl rfl (does_widen Try.underlying24 Try.underlying80 (ev rfl)) ?_; rintro _ w34 ⟨r31, rfl, h32, E33⟩
  have X35 := Ext.gr X28 E33
  show wpList _ _ _ _ (fr [(.agg #[(Fl r1), (Fl r3), (Fl r5)]), (.agg #[(Fl r7), (Fl r9), (Fl r11)]), (Pt b14 0), (Pt b21 0), (Bo false), (Pt b14 0), (Fl r1), (Fd r31), Ud, Ud, Ud, Ud, Ud, Ud, Ud, Ud, Ud, Ud, Ud, Ud, Ud, Ud, Ud, Ud, Ud, Ud, Ud, Ud, Ud]) _
  refine q_is (l' := [(.agg #[(Fl r1), (Fl r3), (Fl r5)]), (.agg #[(Fl r7), (Fl r9), (Fl r11)]), (Pt b14 0), (Pt b21 0), (Bo false), (Pt b14 0), (Fl r1), (Fd r31), (Pt b21 0), Ud, Ud, Ud, Ud, Ud, Ud, Ud, Ud, Ud, Ud, Ud, Ud, Ud, Ud, Ud, Ud, Ud, Ud, Ud, Ud]) rfl rfl (does_fieldAddr (ev rfl) fa26_0) rfl ?_
  refine q_is (l' := [(.agg #[(Fl r1), (Fl r3), (Fl r5)]), (.agg #[(Fl r7), (Fl r9), (Fl r11)]), (Pt b14 0), (Pt b21 0), (Bo false), (Pt b14 0), (Fl r1), (Fd r31), (Pt b21 0), (Fl r7), Ud, Ud, Ud, Ud, Ud, Ud, Ud, Ud, Ud, Ud, Ud, Ud, Ud, Ud, Ud, Ud, Ud, Ud, Ud]) rfl rfl (does_load (u := (Fl r7)) (ev rfl) Try.isAgg24 (Cells.at (Blk.cells (hB23.ext E33)) 0 rfl)) rfl ?_
  refine seqd rfl rfl (does_widen Try.underlying24 Try.underlying80 (ev rfl)) ?_; rintro _ w39 ⟨r36, rfl, h37, E38⟩
  have X40 := Ext.gr X35 E38
  show wpList _ _ _ _ (fr [(.agg #[(Fl r1), (Fl r3), (Fl r5)]), (.agg #[(Fl r7), (Fl r9), (Fl r11)]), (Pt b14 0), (Pt b21 0), (Bo false), (Pt b14 0), (Fl r1), (Fd r31), (Pt b21 0), (Fl r7), (Fd r36), Ud, Ud, Ud, Ud, Ud, Ud, Ud, Ud, Ud, Ud, Ud, Ud, Ud, Ud, Ud, Ud, Ud, Ud]) _
  refine seqd rfl rfl (does_call (args := #[(Fd r31), (Fd r36)]) cal45 (evs rfl) (c_laws_sameFloat r31 r36 _)) ?_; rintro _ w42 ⟨E41, rfl⟩
  have X43 := Ext.gr X40 E41
  show wpList _ _ _ _ (fr [(.agg #[(Fl r1), (Fl r3), (Fl r5)]), (.agg #[(Fl r7), (Fl r9), (Fl r11)]), (Pt b14 0), (Pt b21 0), (Bo false), (Pt b14 0), (Fl r1), (Fd r31), (Pt b21 0), (Fl r7), (Fd r36), (Bo (sameF (cf .f64 r31) (cf .f64 r36))), Ud, Ud, Ud, Ud, Ud, Ud, Ud, Ud, Ud, Ud, Ud, Ud, Ud, Ud, Ud, Ud, Ud]) _
  refine q_is (l' := [(.agg #[(Fl r1), (Fl r3), (Fl r5)]), (.agg #[(Fl r7), (Fl r9), (Fl r11)]), (Pt b14 0), (Pt b21 0), (Bo false), (Pt b14 0), (Fl r1), (Fd r31), (Pt b21 0), (Fl r7), (Fd r36), (Bo (sameF (cf .f64 r31) (cf .f64 r36))), (Bo (!(sameF (cf .f64 r31) (cf .f64 r36)))), Ud, Ud, Ud, Ud, Ud, Ud, Ud, Ud, Ud, Ud, Ud, Ud, Ud, Ud, Ud, Ud]) rfl rfl (does_not (ev rfl)) rfl ?_
  refine wpList_nil (hK30 _ _ ?_)
  refine wp_cond_split (t := !(sameF (cf .f64 r31) (cf .f64 r36))) (ev rfl) (fun c44 => ?_) (fun c44 => ?_)
  · rw [Bool.not_eq_true'] at c44
    have c44' := c44
    refine wp_seq_k fun K45 hK45 => ?_
    refine wp_region_lit ?_
    refine q_is (l' := [(.agg #[(Fl r1), (Fl r3), (Fl r5)]), (.agg #[(Fl r7), (Fl r9), (Fl r11)]), (Pt b14 0), (Pt b21 0), (Bo false), (Pt b14 0), (Fl r1), (Fd r31), (Pt b21 0), (Fl r7), (Fd r36), (Bo (sameF (cf .f64 r31) (cf .f64 r36))), (Bo (!(sameF (cf .f64 r31) (cf .f64 r36)))), Ud, Ud, Ud, Ud, Ud, Ud, Ud, Ud, Ud, Ud, Ud, Ud, Ud, Ud, Ud, Ud]) rfl rfl (does_assign (u := (Bo false)) (ev rfl)) rfl ?_
    refine wpList_nil (hK45 _ _ ?_)
    refine wp_ret ?_
    dsimp only [Exit.then, Exit.inBlock]
    refine ret_val (v := (Bo false)) (res_T rfl (slot rfl)) X43 ?_
    try simp only [h2, h4, h6, h8, h10, h12, h32, h37] at c44
    have x46 : (sameV A_a A_b) = false := by first | with_reducible rfl | (simp only [sameV, h2, h4, h6, h8, h10, h12, h32, h37, c44]; done) | (simp [sameV, h2, h4, h6, h8, h10, h12, h32, h37, c44]; done) | (revert c44; simp +contextual [sameV, h2, h4, h6, h8, h10, h12, h32, h37]; done) | (rcases c44' with hh | hh <;> simp only [hh, sameV, h2, h4, h6, h8, h10, h12, h32, h37, c44]; done) | (rcases c44' with hh | hh <;> simp_all [sameV]; done) | (rcases c44' with hh | hh | hh <;> simp_all [sameV]; done) | (rcases c44' with hh | hh | hh | hh <;> simp_all [sameV]; done) | (simp_all [sameV]; done) | rfl
    exact (by first | rfl | rw [x46])
  rw [Bool.not_eq_false'] at c44
  have c44' := c44
  refine wp_skip (hK29 _ _ ?_)
  refine wp_seq_k fun K47 hK47 => ?_
  refine wp_seq_k fun K48 hK48 => ?_
  refine wp_region_lit ?_
  refine q_is (l' := [(.agg #[(Fl r1), (Fl r3), (Fl r5)]), (.agg #[(Fl r7), (Fl r9), (Fl r11)]), (Pt b14 0), (Pt b21 0), (Bo false), (Pt b14 0), (Fl r1), (Fd r31), (Pt b21 0), (Fl r7), (Fd r36), (Bo (sameF (cf .f64 r31) (cf .f64 r36))), (Bo (!(sameF (cf .f64 r31) (cf .f64 r36)))), (Pt b14 1), Ud, Ud, Ud, Ud, Ud, Ud, Ud, Ud, Ud, Ud, Ud, Ud, Ud, Ud, Ud]) rfl rfl (does_fieldAddr (ev rfl) fa26_1) rfl ?_
  refine q_is (l' := [(.agg #[(Fl r1), (Fl r3), (Fl r5)]), (.agg #[(Fl r7), (Fl r9), (Fl r11)]), (Pt b14 0), (Pt b21 0), (Bo false), (Pt b14 0), (Fl r1), (Fd r31), (Pt b21 0), (Fl r7), (Fd r36), (Bo (sameF (cf .f64 r31) (cf .f64 r36))), (Bo (!(sameF (cf .f64 r31) (cf .f64 r36)))), (Pt b14 1), (Fl r3), Ud, Ud, Ud, Ud, Ud, Ud, Ud, Ud, Ud, Ud, Ud, Ud, Ud, Ud]) rfl rfl (does_load (u := (Fl r3)) (ev rfl) Try.isAgg24 (Cells.at (Blk.cells ((((hB16.ext E24).ext E33).ext E38).ext E41)) 1 rfl)) rfl ?_
  refine seqd rfl rfl (does_widen Try.underlying24 Try.underlying80 (ev rfl)) ?_; rintro _ w52 ⟨r49, rfl, h50, E51⟩
  have X53 := Ext.gr X43 E51
  show wpList _ _ _ _ (fr [(.agg #[(Fl r1), (Fl r3), (Fl r5)]), (.agg #[(Fl r7), (Fl r9), (Fl r11)]), (Pt b14 0), (Pt b21 0), (Bo false), (Pt b14 0), (Fl r1), (Fd r31), (Pt b21 0), (Fl r7), (Fd r36), (Bo (sameF (cf .f64 r31) (cf .f64 r36))), (Bo (!(sameF (cf .f64 r31) (cf .f64 r36)))), (Pt b14 1), (Fl r3), (Fd r49), Ud, Ud, Ud, Ud, Ud, Ud, Ud, Ud, Ud, Ud, Ud, Ud, Ud]) _
  refine q_is (l' := [(.agg #[(Fl r1), (Fl r3), (Fl r5)]), (.agg #[(Fl r7), (Fl r9), (Fl r11)]), (Pt b14 0), (Pt b21 0), (Bo false), (Pt b14 0), (Fl r1), (Fd r31), (Pt b21 0), (Fl r7), (Fd r36), (Bo (sameF (cf .f64 r31) (cf .f64 r36))), (Bo (!(sameF (cf .f64 r31) (cf .f64 r36)))), (Pt b14 1), (Fl r3), (Fd r49), (Pt b21 1), Ud, Ud, Ud, Ud, Ud, Ud, Ud, Ud, Ud, Ud, Ud, Ud]) rfl rfl (does_fieldAddr (ev rfl) fa26_1) rfl ?_
  refine q_is (l' := [(.agg #[(Fl r1), (Fl r3), (Fl r5)]), (.agg #[(Fl r7), (Fl r9), (Fl r11)]), (Pt b14 0), (Pt b21 0), (Bo false), (Pt b14 0), (Fl r1), (Fd r31), (Pt b21 0), (Fl r7), (Fd r36), (Bo (sameF (cf .f64 r31) (cf .f64 r36))), (Bo (!(sameF (cf .f64 r31) (cf .f64 r36)))), (Pt b14 1), (Fl r3), (Fd r49), (Pt b21 1), (Fl r9), Ud, Ud, Ud, Ud, Ud, Ud, Ud, Ud, Ud, Ud, Ud]) rfl rfl (does_load (u := (Fl r9)) (ev rfl) Try.isAgg24 (Cells.at (Blk.cells ((((hB23.ext E33).ext E38).ext E41).ext E51)) 1 rfl)) rfl ?_
  refine seqd rfl rfl (does_widen Try.underlying24 Try.underlying80 (ev rfl)) ?_; rintro _ w57 ⟨r54, rfl, h55, E56⟩
  have X58 := Ext.gr X53 E56
  show wpList _ _ _ _ (fr [(.agg #[(Fl r1), (Fl r3), (Fl r5)]), (.agg #[(Fl r7), (Fl r9), (Fl r11)]), (Pt b14 0), (Pt b21 0), (Bo false), (Pt b14 0), (Fl r1), (Fd r31), (Pt b21 0), (Fl r7), (Fd r36), (Bo (sameF (cf .f64 r31) (cf .f64 r36))), (Bo (!(sameF (cf .f64 r31) (cf .f64 r36)))), (Pt b14 1), (Fl r3), (Fd r49), (Pt b21 1), (Fl r9), (Fd r54), Ud, Ud, Ud, Ud, Ud, Ud, Ud, Ud, Ud, Ud]) _
  refine seqd rfl rfl (does_call (args := #[(Fd r49), (Fd r54)]) cal45 (evs rfl) (c_laws_sameFloat r49 r54 _)) ?_; rintro _ w60 ⟨E59, rfl⟩
  have X61 := Ext.gr X58 E59
  show wpList _ _ _ _ (fr [(.agg #[(Fl r1), (Fl r3), (Fl r5)]), (.agg #[(Fl r7), (Fl r9), (Fl r11)]), (Pt b14 0), (Pt b21 0), (Bo false), (Pt b14 0), (Fl r1), (Fd r31), (Pt b21 0), (Fl r7), (Fd r36), (Bo (sameF (cf .f64 r31) (cf .f64 r36))), (Bo (!(sameF (cf .f64 r31) (cf .f64 r36)))), (Pt b14 1), (Fl r3), (Fd r49), (Pt b21 1), (Fl r9), (Fd r54), (Bo (sameF (cf .f64 r49) (cf .f64 r54))), Ud, Ud, Ud, Ud, Ud, Ud, Ud, Ud, Ud]) _
  refine q_is (l' := [(.agg #[(Fl r1), (Fl r3), (Fl r5)]), (.agg #[(Fl r7), (Fl r9), (Fl r11)]), (Pt b14 0), (Pt b21 0), (Bo false), (Pt b14 0), (Fl r1), (Fd r31), (Pt b21 0), (Fl r7), (Fd r36), (Bo (sameF (cf .f64 r31) (cf .f64 r36))), (Bo (!(sameF (cf .f64 r31) (cf .f64 r36)))), (Pt b14 1), (Fl r3), (Fd r49), (Pt b21 1), (Fl r9), (Fd r54), (Bo (sameF (cf .f64 r49) (cf .f64 r54))), (Bo (!(sameF (cf .f64 r49) (cf .f64 r54)))), Ud, Ud, Ud, Ud, Ud, Ud, Ud, Ud]) rfl rfl (does_not (ev rfl)) rfl ?_
  refine wpList_nil (hK48 _ _ ?_)
  refine wp_cond_split (t := !(sameF (cf .f64 r49) (cf .f64 r54))) (ev rfl) (fun c62 => ?_) (fun c62 => ?_)
  · rw [Bool.not_eq_true'] at c62
    have c62' := c62
    refine wp_seq_k fun K63 hK63 => ?_
    refine wp_region_lit ?_
    refine q_is (l' := [(.agg #[(Fl r1), (Fl r3), (Fl r5)]), (.agg #[(Fl r7), (Fl r9), (Fl r11)]), (Pt b14 0), (Pt b21 0), (Bo false), (Pt b14 0), (Fl r1), (Fd r31), (Pt b21 0), (Fl r7), (Fd r36), (Bo (sameF (cf .f64 r31) (cf .f64 r36))), (Bo (!(sameF (cf .f64 r31) (cf .f64 r36)))), (Pt b14 1), (Fl r3), (Fd r49), (Pt b21 1), (Fl r9), (Fd r54), (Bo (sameF (cf .f64 r49) (cf .f64 r54))), (Bo (!(sameF (cf .f64 r49) (cf .f64 r54)))), Ud, Ud, Ud, Ud, Ud, Ud, Ud, Ud]) rfl rfl (does_assign (u := (Bo false)) (ev rfl)) rfl ?_
    refine wpList_nil (hK63 _ _ ?_)
    refine wp_ret ?_
    dsimp only [Exit.then, Exit.inBlock]
    refine ret_val (v := (Bo false)) (res_T rfl (slot rfl)) X61 ?_
    try simp only [h2, h4, h6, h8, h10, h12, h32, h37, h50, h55] at c44 c62
    have x64 : (sameV A_a A_b) = false := by first | with_reducible rfl | (simp only [sameV, h2, h4, h6, h8, h10, h12, h32, h37, h50, h55, c44, c62]; done) | (simp [sameV, h2, h4, h6, h8, h10, h12, h32, h37, h50, h55, c44, c62]; done) | (revert c44 c62; simp +contextual [sameV, h2, h4, h6, h8, h10, h12, h32, h37, h50, h55]; done) | (rcases c44' with hh | hh <;> simp only [hh, sameV, h2, h4, h6, h8, h10, h12, h32, h37, h50, h55, c44, c62]; done) | (rcases c62' with hh | hh <;> simp only [hh, sameV, h2, h4, h6, h8, h10, h12, h32, h37, h50, h55, c44, c62]; done) | (rcases c62' with hh | hh <;> simp_all [sameV]; done) | (rcases c62' with hh | hh | hh <;> simp_all [sameV]; done) | (rcases c62' with hh | hh | hh | hh <;> simp_all [sameV]; done) | (simp_all [sameV]; done) | rfl
    exact (by first | rfl | rw [x64])
  rw [Bool.not_eq_false'] at c62
  have c62' := c62
  refine wp_skip (hK47 _ _ ?_)
  refine wp_seq_k fun K65 hK65 => ?_
  refine wp_seq_k fun K66 hK66 => ?_
  refine wp_region_lit ?_
  refine q_is (l' := [(.agg #[(Fl r1), (Fl r3), (Fl r5)]), (.agg #[(Fl r7), (Fl r9), (Fl r11)]), (Pt b14 0), (Pt b21 0), (Bo false), (Pt b14 0), (Fl r1), (Fd r31), (Pt b21 0), (Fl r7), (Fd r36), (Bo (sameF (cf .f64 r31) (cf .f64 r36))), (Bo (!(sameF (cf .f64 r31) (cf .f64 r36)))), (Pt b14 1), (Fl r3), (Fd r49), (Pt b21 1), (Fl r9), (Fd r54), (Bo (sameF (cf .f64 r49) (cf .f64 r54))), (Bo (!(sameF (cf .f64 r49) (cf .f64 r54)))), (Pt b14 2), Ud, Ud, Ud, Ud, Ud, Ud, Ud]) rfl rfl (does_fieldAddr (ev rfl) fa26_2) rfl ?_
  refine q_is (l' := [(.agg #[(Fl r1), (Fl r3), (Fl r5)]), (.agg #[(Fl r7), (Fl r9), (Fl r11)]), (Pt b14 0), (Pt b21 0), (Bo false), (Pt b14 0), (Fl r1), (Fd r31), (Pt b21 0), (Fl r7), (Fd r36), (Bo (sameF (cf .f64 r31) (cf .f64 r36))), (Bo (!(sameF (cf .f64 r31) (cf .f64 r36)))), (Pt b14 1), (Fl r3), (Fd r49), (Pt b21 1), (Fl r9), (Fd r54), (Bo (sameF (cf .f64 r49) (cf .f64 r54))), (Bo (!(sameF (cf .f64 r49) (cf .f64 r54)))), (Pt b14 2), (Fl r5), Ud, Ud, Ud, Ud, Ud, Ud]) rfl rfl (does_load (u := (Fl r5)) (ev rfl) Try.isAgg24 (Cells.at (Blk.cells (((((((hB16.ext E24).ext E33).ext E38).ext E41).ext E51).ext E56).ext E59)) 2 rfl)) rfl ?_
  refine seqd rfl rfl (does_widen Try.underlying24 Try.underlying80 (ev rfl)) ?_; rintro _ w70 ⟨r67, rfl, h68, E69⟩
  have X71 := Ext.gr X61 E69
  show wpList _ _ _ _ (fr [(.agg #[(Fl r1), (Fl r3), (Fl r5)]), (.agg #[(Fl r7), (Fl r9), (Fl r11)]), (Pt b14 0), (Pt b21 0), (Bo false), (Pt b14 0), (Fl r1), (Fd r31), (Pt b21 0), (Fl r7), (Fd r36), (Bo (sameF (cf .f64 r31) (cf .f64 r36))), (Bo (!(sameF (cf .f64 r31) (cf .f64 r36)))), (Pt b14 1), (Fl r3), (Fd r49), (Pt b21 1), (Fl r9), (Fd r54), (Bo (sameF (cf .f64 r49) (cf .f64 r54))), (Bo (!(sameF (cf .f64 r49) (cf .f64 r54)))), (Pt b14 2), (Fl r5), (Fd r67), Ud, Ud, Ud, Ud, Ud]) _
  refine q_is (l' := [(.agg #[(Fl r1), (Fl r3), (Fl r5)]), (.agg #[(Fl r7), (Fl r9), (Fl r11)]), (Pt b14 0), (Pt b21 0), (Bo false), (Pt b14 0), (Fl r1), (Fd r31), (Pt b21 0), (Fl r7), (Fd r36), (Bo (sameF (cf .f64 r31) (cf .f64 r36))), (Bo (!(sameF (cf .f64 r31) (cf .f64 r36)))), (Pt b14 1), (Fl r3), (Fd r49), (Pt b21 1), (Fl r9), (Fd r54), (Bo (sameF (cf .f64 r49) (cf .f64 r54))), (Bo (!(sameF (cf .f64 r49) (cf .f64 r54)))), (Pt b14 2), (Fl r5), (Fd r67), (Pt b21 2), Ud, Ud, Ud, Ud]) rfl rfl (does_fieldAddr (ev rfl) fa26_2) rfl ?_
  refine q_is (l' := [(.agg #[(Fl r1), (Fl r3), (Fl r5)]), (.agg #[(Fl r7), (Fl r9), (Fl r11)]), (Pt b14 0), (Pt b21 0), (Bo false), (Pt b14 0), (Fl r1), (Fd r31), (Pt b21 0), (Fl r7), (Fd r36), (Bo (sameF (cf .f64 r31) (cf .f64 r36))), (Bo (!(sameF (cf .f64 r31) (cf .f64 r36)))), (Pt b14 1), (Fl r3), (Fd r49), (Pt b21 1), (Fl r9), (Fd r54), (Bo (sameF (cf .f64 r49) (cf .f64 r54))), (Bo (!(sameF (cf .f64 r49) (cf .f64 r54)))), (Pt b14 2), (Fl r5), (Fd r67), (Pt b21 2), (Fl r11), Ud, Ud, Ud]) rfl rfl (does_load (u := (Fl r11)) (ev rfl) Try.isAgg24 (Cells.at (Blk.cells (((((((hB23.ext E33).ext E38).ext E41).ext E51).ext E56).ext E59).ext E69)) 2 rfl)) rfl ?_
  refine seqd rfl rfl (does_widen Try.underlying24 Try.underlying80 (ev rfl)) ?_; rintro _ w75 ⟨r72, rfl, h73, E74⟩
  have X76 := Ext.gr X71 E74
  show wpList _ _ _ _ (fr [(.agg #[(Fl r1), (Fl r3), (Fl r5)]), (.agg #[(Fl r7), (Fl r9), (Fl r11)]), (Pt b14 0), (Pt b21 0), (Bo false), (Pt b14 0), (Fl r1), (Fd r31), (Pt b21 0), (Fl r7), (Fd r36), (Bo (sameF (cf .f64 r31) (cf .f64 r36))), (Bo (!(sameF (cf .f64 r31) (cf .f64 r36)))), (Pt b14 1), (Fl r3), (Fd r49), (Pt b21 1), (Fl r9), (Fd r54), (Bo (sameF (cf .f64 r49) (cf .f64 r54))), (Bo (!(sameF (cf .f64 r49) (cf .f64 r54)))), (Pt b14 2), (Fl r5), (Fd r67), (Pt b21 2), (Fl r11), (Fd r72), Ud, Ud]) _
  refine seqd rfl rfl (does_call (args := #[(Fd r67), (Fd r72)]) cal45 (evs rfl) (c_laws_sameFloat r67 r72 _)) ?_; rintro _ w78 ⟨E77, rfl⟩
  have X79 := Ext.gr X76 E77
  show wpList _ _ _ _ (fr [(.agg #[(Fl r1), (Fl r3), (Fl r5)]), (.agg #[(Fl r7), (Fl r9), (Fl r11)]), (Pt b14 0), (Pt b21 0), (Bo false), (Pt b14 0), (Fl r1), (Fd r31), (Pt b21 0), (Fl r7), (Fd r36), (Bo (sameF (cf .f64 r31) (cf .f64 r36))), (Bo (!(sameF (cf .f64 r31) (cf .f64 r36)))), (Pt b14 1), (Fl r3), (Fd r49), (Pt b21 1), (Fl r9), (Fd r54), (Bo (sameF (cf .f64 r49) (cf .f64 r54))), (Bo (!(sameF (cf .f64 r49) (cf .f64 r54)))), (Pt b14 2), (Fl r5), (Fd r67), (Pt b21 2), (Fl r11), (Fd r72), (Bo (sameF (cf .f64 r67) (cf .f64 r72))), Ud]) _
  refine q_is (l' := [(.agg #[(Fl r1), (Fl r3), (Fl r5)]), (.agg #[(Fl r7), (Fl r9), (Fl r11)]), (Pt b14 0), (Pt b21 0), (Bo false), (Pt b14 0), (Fl r1), (Fd r31), (Pt b21 0), (Fl r7), (Fd r36), (Bo (sameF (cf .f64 r31) (cf .f64 r36))), (Bo (!(sameF (cf .f64 r31) (cf .f64 r36)))), (Pt b14 1), (Fl r3), (Fd r49), (Pt b21 1), (Fl r9), (Fd r54), (Bo (sameF (cf .f64 r49) (cf .f64 r54))), (Bo (!(sameF (cf .f64 r49) (cf .f64 r54)))), (Pt b14 2), (Fl r5), (Fd r67), (Pt b21 2), (Fl r11), (Fd r72), (Bo (sameF (cf .f64 r67) (cf .f64 r72))), (Bo (!(sameF (cf .f64 r67) (cf .f64 r72))))]) rfl rfl (does_not (ev rfl)) rfl ?_
  refine wpList_nil (hK66 _ _ ?_)
  refine wp_cond_split (t := !(sameF (cf .f64 r67) (cf .f64 r72))) (ev rfl) (fun c80 => ?_) (fun c80 => ?_)
  · rw [Bool.not_eq_true'] at c80
    have c80' := c80
    refine wp_seq_k fun K81 hK81 => ?_
    refine wp_region_lit ?_
    refine q_is (l' := [(.agg #[(Fl r1), (Fl r3), (Fl r5)]), (.agg #[(Fl r7), (Fl r9), (Fl r11)]), (Pt b14 0), (Pt b21 0), (Bo false), (Pt b14 0), (Fl r1), (Fd r31), (Pt b21 0), (Fl r7), (Fd r36), (Bo (sameF (cf .f64 r31) (cf .f64 r36))), (Bo (!(sameF (cf .f64 r31) (cf .f64 r36)))), (Pt b14 1), (Fl r3), (Fd r49), (Pt b21 1), (Fl r9), (Fd r54), (Bo (sameF (cf .f64 r49) (cf .f64 r54))), (Bo (!(sameF (cf .f64 r49) (cf .f64 r54)))), (Pt b14 2), (Fl r5), (Fd r67), (Pt b21 2), (Fl r11), (Fd r72), (Bo (sameF (cf .f64 r67) (cf .f64 r72))), (Bo (!(sameF (cf .f64 r67) (cf .f64 r72))))]) rfl rfl (does_assign (u := (Bo false)) (ev rfl)) rfl ?_
    refine wpList_nil (hK81 _ _ ?_)
    refine wp_ret ?_
    dsimp only [Exit.then, Exit.inBlock]
    refine ret_val (v := (Bo false)) (res_T rfl (slot rfl)) X79 ?_
    try simp only [h2, h4, h6, h8, h10, h12, h32, h37, h50, h55, h68, h73] at c44 c62 c80
    have x82 : (sameV A_a A_b) = false := by first | with_reducible rfl | (simp only [sameV, h2, h4, h6, h8, h10, h12, h32, h37, h50, h55, h68, h73, c44, c62, c80]; done) | (simp [sameV, h2, h4, h6, h8, h10, h12, h32, h37, h50, h55, h68, h73, c44, c62, c80]; done) | (revert c44 c62 c80; simp +contextual [sameV, h2, h4, h6, h8, h10, h12, h32, h37, h50, h55, h68, h73]; done) | (rcases c44' with hh | hh <;> simp only [hh, sameV, h2, h4, h6, h8, h10, h12, h32, h37, h50, h55, h68, h73, c44, c62, c80]; done) | (rcases c62' with hh | hh <;> simp only [hh, sameV, h2, h4, h6, h8, h10, h12, h32, h37, h50, h55, h68, h73, c44, c62, c80]; done) | (rcases c80' with hh | hh <;> simp only [hh, sameV, h2, h4, h6, h8, h10, h12, h32, h37, h50, h55, h68, h73, c44, c62, c80]; done) | (rcases c80' with hh | hh <;> simp_all [sameV]; done) | (rcases c80' with hh | hh | hh <;> simp_all [sameV]; done) | (rcases c80' with hh | hh | hh | hh <;> simp_all [sameV]; done) | (simp_all [sameV]; done) | rfl
    exact (by first | rfl | rw [x82])
  rw [Bool.not_eq_false'] at c80
  have c80' := c80
  refine wp_skip (hK65 _ _ ?_)
  refine wp_seq_k fun K83 hK83 => ?_
  refine wp_region_lit ?_
  refine q_is (l' := [(.agg #[(Fl r1), (Fl r3), (Fl r5)]), (.agg #[(Fl r7), (Fl r9), (Fl r11)]), (Pt b14 0), (Pt b21 0), (Bo true), (Pt b14 0), (Fl r1), (Fd r31), (Pt b21 0), (Fl r7), (Fd r36), (Bo (sameF (cf .f64 r31) (cf .f64 r36))), (Bo (!(sameF (cf .f64 r31) (cf .f64 r36)))), (Pt b14 1), (Fl r3), (Fd r49), (Pt b21 1), (Fl r9), (Fd r54), (Bo (sameF (cf .f64 r49) (cf .f64 r54))), (Bo (!(sameF (cf .f64 r49) (cf .f64 r54)))), (Pt b14 2), (Fl r5), (Fd r67), (Pt b21 2), (Fl r11), (Fd r72), (Bo (sameF (cf .f64 r67) (cf .f64 r72))), (Bo (!(sameF (cf .f64 r67) (cf .f64 r72))))]) rfl rfl (does_assign (u := (Bo true)) (ev rfl)) rfl ?_
  refine wpList_nil (hK83 _ _ ?_)
  refine wp_ret ?_
  refine ret_val (v := (Bo true)) (res_T rfl (slot rfl)) X79 ?_
  try simp only [h2, h4, h6, h8, h10, h12, h32, h37, h50, h55, h68, h73] at c44 c62 c80
  have x84 : (sameV A_a A_b) = true := by first | with_reducible rfl | (simp only [sameV, h2, h4, h6, h8, h10, h12, h32, h37, h50, h55, h68, h73, c44, c62, c80]; done) | (simp [sameV, h2, h4, h6, h8, h10, h12, h32, h37, h50, h55, h68, h73, c44, c62, c80]; done) | (revert c44 c62 c80; simp +contextual [sameV, h2, h4, h6, h8, h10, h12, h32, h37, h50, h55, h68, h73]; done) | (rcases c44' with hh | hh <;> simp only [hh, sameV, h2, h4, h6, h8, h10, h12, h32, h37, h50, h55, h68, h73, c44, c62, c80]; done) | (rcases c62' with hh | hh <;> simp only [hh, sameV, h2, h4, h6, h8, h10, h12, h32, h37, h50, h55, h68, h73, c44, c62, c80]; done) | (rcases c80' with hh | hh <;> simp only [hh, sameV, h2, h4, h6, h8, h10, h12, h32, h37, h50, h55, h68, h73, c44, c62, c80]; done) | (rcases c80' with hh | hh <;> simp_all [sameV]; done) | (rcases c80' with hh | hh | hh <;> simp_all [sameV]; done) | (rcases c80' with hh | hh | hh | hh <;> simp_all [sameV]; done) | (simp_all [sameV]; done) | rfl
  exact (by first | rfl | rw [x84])

/- laws.eqBox -/
theorem c_laws_eqBox (a : List Value) (A_a : Bx) (b : List Value) (A_b : Bx) (w : World) (hv_a : RBx w A_a a) (hv_b : RBx w A_b b) : Gives Try.prog 17 #[(.agg a.toArray), (.agg b.toArray)] w (fun v w' => v = (Bo (sameB A_a A_b))) := by
  obtain ⟨r1, r3, r5, r7, r9, r11, rfl, h2, h4, h6, h8, h10, h12⟩ := hv_a
  obtain ⟨r13, r15, r17, r19, r21, r23, rfl, h14, h16, h18, h20, h22, h24⟩ := hv_b
  refine enter [(.agg #[(Fl r1), (Fl r3), (Fl r5), (Fl r7), (Fl r9), (Fl r11)]), (.agg #[(Fl r13), (Fl r15), (Fl r17), (Fl r19), (Fl r21), (Fl r23)]), Ud, Ud, Ud, Ud, Ud, Ud, Ud, Ud, Ud, Ud, Ud, Ud, Ud, Ud, Ud] Try.func17 rfl Try.ntmps17 rfl ?_
  refine wp_seq_k fun K25 hK25 => ?_
  refine wp_region_lit ?_
  refine seqd rfl rfl (does_box (u := (.agg #[(Fl r1), (Fl r3), (Fl r5), (Fl r7), (Fl r9), (Fl r11)])) (ev rfl)) ?_; rintro _ w30 ⟨b26, rfl, hb27, hB28, E29⟩
  have g31 : w.heap.size ≤ b26 := Nat.le_trans (Below.size (Ext.refl w)) hb27
  change Blk _ _ [(Fl r1), (Fl r3), (Fl r5), (Fl r7), (Fl r9), (Fl r11)] at hB28
  have X32 := Ext.gr (Ext.refl w) E29
  show wpList _ _ _ _ (fr [(.agg #[(Fl r1), (Fl r3), (Fl r5), (Fl r7), (Fl r9), (Fl r11)]), (.agg #[(Fl r13), (Fl r15), (Fl r17), (Fl r19), (Fl r21), (Fl r23)]), (Pt b26 0), Ud, Ud, Ud, Ud, Ud, Ud, Ud, Ud, Ud, Ud, Ud, Ud, Ud, Ud]) _
  refine seqd rfl rfl (does_box (u := (.agg #[(Fl r13), (Fl r15), (Fl r17), (Fl r19), (Fl r21), (Fl r23)])) (ev rfl)) ?_; rintro _ w37 ⟨b33, rfl, hb34, hB35, E36⟩
  have n38 : b26 < b33 := Nat.lt_of_lt_of_le (Blk.lt hB28) hb34
  have g39 : w.heap.size ≤ b33 := Nat.le_trans (Below.size X32) hb34
  change Blk _ _ [(Fl r13), (Fl r15), (Fl r17), (Fl r19), (Fl r21), (Fl r23)] at hB35
  have X40 := Ext.gr X32 E36
  show wpList _ _ _ _ (fr [(.agg #[(Fl r1), (Fl r3), (Fl r5), (Fl r7), (Fl r9), (Fl r11)]), (.agg #[(Fl r13), (Fl r15), (Fl r17), (Fl r19), (Fl r21), (Fl r23)]), (Pt b26 0), (Pt b33 0), Ud, Ud, Ud, Ud, Ud, Ud, Ud, Ud, Ud, Ud, Ud, Ud, Ud]) _
  refine q_is (l' := [(.agg #[(Fl r1), (Fl r3), (Fl r5), (Fl r7), (Fl r9), (Fl r11)]), (.agg #[(Fl r13), (Fl r15), (Fl r17), (Fl r19), (Fl r21), (Fl r23)]), (Pt b26 0), (Pt b33 0), (Bo false), Ud, Ud, Ud, Ud, Ud, Ud, Ud, Ud, Ud, Ud, Ud, Ud]) rfl rfl (does_assign (u := (Bo false)) (ev rfl)) rfl ?_
  refine wpList_nil (hK25 _ _ ?_)
  refine wp_seq_k fun K41 hK41 => ?_
  refine wp_seq_k fun K42 hK42 => ?_
  refine wp_region_lit ?_
  refine q_is (l' := [(.agg #[(Fl r1), (Fl r3), (Fl r5), (Fl r7), (Fl r9), (Fl r11)]), (.agg #[(Fl r13), (Fl r15), (Fl r17), (Fl r19), (Fl r21), (Fl r23)]), (Pt b26 0), (Pt b33 0), (Bo false), (Pt b26 0), Ud, Ud, Ud, Ud, Ud, Ud, Ud, Ud, Ud, Ud, Ud]) rfl rfl (does_fieldAddr (ev rfl) fa28_0) rfl ?_
  refine q_is (l' := [(.agg #[(Fl r1), (Fl r3), (Fl r5), (Fl r7), (Fl r9), (Fl r11)]), (.agg #[(Fl r13), (Fl r15), (Fl r17), (Fl r19), (Fl r21), (Fl r23)]), (Pt b26 0), (Pt b33 0), (Bo false), (Pt b26 0), (.agg #[(Fl r1), (Fl r3), (Fl r5)]), Ud, Ud, Ud, Ud, Ud, Ud, Ud, Ud, Ud, Ud]) rfl rfl (does_loadAgg (cs := [(Fl r1), (Fl r3), (Fl r5)]) (ev rfl) Try.isAgg26 Try.sizeOf26 (Cells.sub (Blk.cells (hB28.ext E36)) 0 3) rfl) rfl ?_
  refine q_is (l' := [(.agg #[(Fl r1), (Fl r3), (Fl r5), (Fl r7), (Fl r9), (Fl r11)]), (.agg #[(Fl r13), (Fl r15), (Fl r17), (Fl r19), (Fl r21), (Fl r23)]), (Pt b26 0), (Pt b33 0), (Bo false), (Pt b26 0), (.agg #[(Fl r1), (Fl r3), (Fl r5)]), (Pt b33 0), Ud, Ud, Ud, Ud, Ud, Ud, Ud, Ud, Ud]) rfl rfl (does_fieldAddr (ev rfl) fa28_0) rfl ?_
  refine q_is (l' := [(.agg #[(Fl r1), (Fl r3), (Fl r5), (Fl r7), (Fl r9), (Fl r11)]), (.agg #[(Fl r13), (Fl r15), (Fl r17), (Fl r19), (Fl r21), (Fl r23)]), (Pt b26 0), (Pt b33 0), (Bo false), (Pt b26 0), (.agg #[(Fl r1), (Fl r3), (Fl r5)]), (Pt b33 0), (.agg #[(Fl r13), (Fl r15), (Fl r17)]), Ud, Ud, Ud, Ud, Ud, Ud, Ud, Ud]) rfl rfl (does_loadAgg (cs := [(Fl r13), (Fl r15), (Fl r17)]) (ev rfl) Try.isAgg26 Try.sizeOf26 (Cells.sub (Blk.cells hB35) 0 3) rfl) rfl ?_
  refine seqd rfl rfl (does_call (args := #[(.agg #[(Fl r1), (Fl r3), (Fl r5)]), (.agg #[(Fl r13), (Fl r15), (Fl r17)])]) cal33 (evs rfl) (c_laws_eqVector [(Fl r1), (Fl r3), (Fl r5)] A_a.lo [(Fl r13), (Fl r15), (Fl r17)] A_b.lo _ ⟨r1, r3, r5, rfl, h2, h4, h6⟩ ⟨r13, r15, r17, rfl, h14, h16, h18⟩)) ?_; rintro _ w44 ⟨E43, rfl⟩
  have X45 := Ext.gr X40 E43
  show wpList _ _ _ _ (fr [(.agg #[(Fl r1), (Fl r3), (Fl r5), (Fl r7), (Fl r9), (Fl r11)]), (.agg #[(Fl r13), (Fl r15), (Fl r17), (Fl r19), (Fl r21), (Fl r23)]), (Pt b26 0), (Pt b33 0), (Bo false), (Pt b26 0), (.agg #[(Fl r1), (Fl r3), (Fl r5)]), (Pt b33 0), (.agg #[(Fl r13), (Fl r15), (Fl r17)]), (Bo (sameV A_a.lo A_b.lo)), Ud, Ud, Ud, Ud, Ud, Ud, Ud]) _
  refine q_is (l' := [(.agg #[(Fl r1), (Fl r3), (Fl r5), (Fl r7), (Fl r9), (Fl r11)]), (.agg #[(Fl r13), (Fl r15), (Fl r17), (Fl r19), (Fl r21), (Fl r23)]), (Pt b26 0), (Pt b33 0), (Bo false), (Pt b26 0), (.agg #[(Fl r1), (Fl r3), (Fl r5)]), (Pt b33 0), (.agg #[(Fl r13), (Fl r15), (Fl r17)]), (Bo (sameV A_a.lo A_b.lo)), (Bo (!(sameV A_a.lo A_b.lo))), Ud, Ud, Ud, Ud, Ud, Ud]) rfl rfl (does_not (ev rfl)) rfl ?_
  refine wpList_nil (hK42 _ _ ?_)
  refine wp_cond_split (t := !(sameV A_a.lo A_b.lo)) (ev rfl) (fun c46 => ?_) (fun c46 => ?_)
  · rw [Bool.not_eq_true'] at c46
    have c46' := c46
    refine wp_seq_k fun K47 hK47 => ?_
    refine wp_region_lit ?_
    refine q_is (l' := [(.agg #[(Fl r1), (Fl r3), (Fl r5), (Fl r7), (Fl r9), (Fl r11)]), (.agg #[(Fl r13), (Fl r15), (Fl r17), (Fl r19), (Fl r21), (Fl r23)]), (Pt b26 0), (Pt b33 0), (Bo false), (Pt b26 0), (.agg #[(Fl r1), (Fl r3), (Fl r5)]), (Pt b33 0), (.agg #[(Fl r13), (Fl r15), (Fl r17)]), (Bo (sameV A_a.lo A_b.lo)), (Bo (!(sameV A_a.lo A_b.lo))), Ud, Ud, Ud, Ud, Ud, Ud]) rfl rfl (does_assign (u := (Bo false)) (ev rfl)) rfl ?_
    refine wpList_nil (hK47 _ _ ?_)
    refine wp_ret ?_
    dsimp only [Exit.then, Exit.inBlock]
    refine ret_val (v := (Bo false)) (res_T rfl (slot rfl)) X45 ?_
    try simp only [h2, h4, h6, h8, h10, h12, h14, h16, h18, h20, h22, h24] at c46
    have x48 : (sameB A_a A_b) = false := by first | with_reducible rfl | (simp only [sameB, h2, h4, h6, h8, h10, h12, h14, h16, h18, h20, h22, h24, c46]; done) | (simp [sameB, h2, h4, h6, h8, h10, h12, h14, h16, h18, h20, h22, h24, c46]; done) | (revert c46; simp +contextual [sameB, h2, h4, h6, h8, h10, h12, h14, h16, h18, h20, h22, h24]; done) | (rcases c46' with hh | hh <;> simp only [hh, sameB, h2, h4, h6, h8, h10, h12, h14, h16, h18, h20, h22, h24, c46]; done) | (rcases c46' with hh | hh <;> simp_all [sameB]; done) | (rcases c46' with hh | hh | hh <;> simp_all [sameB]; done) | (rcases c46' with hh | hh | hh | hh <;> simp_all [sameB]; done) | (simp_all [sameB]; done) | rfl
    exact (by first | rfl | rw [x48])
  rw [Bool.not_eq_false'] at c46
  have c46' := c46
  refine wp_skip (hK41 _ _ ?_)
  refine wp_seq_k fun K49 hK49 => ?_
  refine wp_seq_k fun K50 hK50 => ?_
  refine wp_region_lit ?_
  refine q_is (l' := [(.agg #[(Fl r1), (Fl r3), (Fl r5), (Fl r7), (Fl r9), (Fl r11)]), (.agg #[(Fl r13), (Fl r15), (Fl r17), (Fl r19), (Fl r21), (Fl r23)]), (Pt b26 0), (Pt b33 0), (Bo false), (Pt b26 0), (.agg #[(Fl r1), (Fl r3), (Fl r5)]), (Pt b33 0), (.agg #[(Fl r13), (Fl r15), (Fl r17)]), (Bo (sameV A_a.lo A_b.lo)), (Bo (!(sameV A_a.lo A_b.lo))), (Pt b26 3), Ud, Ud, Ud, Ud, Ud]) rfl rfl (does_fieldAddr (ev rfl) fa28_1) rfl ?_
  refine q_is (l' := [(.agg #[(Fl r1), (Fl r3), (Fl r5), (Fl r7), (Fl r9), (Fl r11)]), (.agg #[(Fl r13), (Fl r15), (Fl r17), (Fl r19), (Fl r21), (Fl r23)]), (Pt b26 0), (Pt b33 0), (Bo false), (Pt b26 0), (.agg #[(Fl r1), (Fl r3), (Fl r5)]), (Pt b33 0), (.agg #[(Fl r13), (Fl r15), (Fl r17)]), (Bo (sameV A_a.lo A_b.lo)), (Bo (!(sameV A_a.lo A_b.lo))), (Pt b26 3), (.agg #[(Fl r7), (Fl r9), (Fl r11)]), Ud, Ud, Ud, Ud]) rfl rfl (does_loadAgg (cs := [(Fl r7), (Fl r9), (Fl r11)]) (ev rfl) Try.isAgg26 Try.sizeOf26 (Cells.sub (Blk.cells ((hB28.ext E36).ext E43)) 3 3) rfl) rfl ?_
  refine q_is (l' := [(.agg #[(Fl r1), (Fl r3), (Fl r5), (Fl r7), (Fl r9), (Fl r11)]), (.agg #[(Fl r13), (Fl r15), (Fl r17), (Fl r19), (Fl r21), (Fl r23)]), (Pt b26 0), (Pt b33 0), (Bo false), (Pt b26 0), (.agg #[(Fl r1), (Fl r3), (Fl r5)]), (Pt b33 0), (.agg #[(Fl r13), (Fl r15), (Fl r17)]), (Bo (sameV A_a.lo A_b.lo)), (Bo (!(sameV A_a.lo A_b.lo))), (Pt b26 3), (.agg #[(Fl r7), (Fl r9), (Fl r11)]), (Pt b33 3), Ud, Ud, Ud]) rfl rfl (does_fieldAddr (ev rfl) fa28_1) rfl ?_
  refine q_is (l' := [(.agg #[(Fl r1), (Fl r3), (Fl r5), (Fl r7), (Fl r9), (Fl r11)]), (.agg #[(Fl r13), (Fl r15), (Fl r17), (Fl r19), (Fl r21), (Fl r23)]), (Pt b26 0), (Pt b33 0), (Bo false), (Pt b26 0), (.agg #[(Fl r1), (Fl r3), (Fl r5)]), (Pt b33 0), (.agg #[(Fl r13), (Fl r15), (Fl r17)]), (Bo (sameV A_a.lo A_b.lo)), (Bo (!(sameV A_a.lo A_b.lo))), (Pt b26 3), (.agg #[(Fl r7), (Fl r9), (Fl r11)]), (Pt b33 3), (.agg #[(Fl r19), (Fl r21), (Fl r23)]), Ud, Ud]) rfl rfl (does_loadAgg (cs := [(Fl r19), (Fl r21), (Fl r23)]) (ev rfl) Try.isAgg26 Try.sizeOf26 (Cells.sub (Blk.cells (hB35.ext E43)) 3 3) rfl) rfl ?_
  refine seqd rfl rfl (does_call (args := #[(.agg #[(Fl r7), (Fl r9), (Fl r11)]), (.agg #[(Fl r19), (Fl r21), (Fl r23)])]) cal33 (evs rfl) (c_laws_eqVector [(Fl r7), (Fl r9), (Fl r11)] A_a.hi [(Fl r19), (Fl r21), (Fl r23)] A_b.hi _ ⟨r7, r9, r11, rfl, h8, h10, h12⟩ ⟨r19, r21, r23, rfl, h20, h22, h24⟩)) ?_; rintro _ w52 ⟨E51, rfl⟩
  have X53 := Ext.gr X45 E51
  show wpList _ _ _ _ (fr [(.agg #[(Fl r1), (Fl r3), (Fl r5), (Fl r7), (Fl r9), (Fl r11)]), (.agg #[(Fl r13), (Fl r15), (Fl r17), (Fl r19), (Fl r21), (Fl r23)]), (Pt b26 0), (Pt b33 0), (Bo false), (Pt b26 0), (.agg #[(Fl r1), (Fl r3), (Fl r5)]), (Pt b33 0), (.agg #[(Fl r13), (Fl r15), (Fl r17)]), (Bo (sameV A_a.lo A_b.lo)), (Bo (!(sameV A_a.lo A_b.lo))), (Pt b26 3), (.agg #[(Fl r7), (Fl r9), (Fl r11)]), (Pt b33 3), (.agg #[(Fl r19), (Fl r21), (Fl r23)]), (Bo (sameV A_a.hi A_b.hi)), Ud]) _
  refine q_is (l' := [(.agg #[(Fl r1), (Fl r3), (Fl r5), (Fl r7), (Fl r9), (Fl r11)]), (.agg #[(Fl r13), (Fl r15), (Fl r17), (Fl r19), (Fl r21), (Fl r23)]), (Pt b26 0), (Pt b33 0), (Bo false), (Pt b26 0), (.agg #[(Fl r1), (Fl r3), (Fl r5)]), (Pt b33 0), (.agg #[(Fl r13), (Fl r15), (Fl r17)]), (Bo (sameV A_a.lo A_b.lo)), (Bo (!(sameV A_a.lo A_b.lo))), (Pt b26 3), (.agg #[(Fl r7), (Fl r9), (Fl r11)]), (Pt b33 3), (.agg #[(Fl r19), (Fl r21), (Fl r23)]), (Bo (sameV A_a.hi A_b.hi)), (Bo (!(sameV A_a.hi A_b.hi)))]) rfl rfl (does_not (ev rfl)) rfl ?_
  refine wpList_nil (hK50 _ _ ?_)
  refine wp_cond_split (t := !(sameV A_a.hi A_b.hi)) (ev rfl) (fun c54 => ?_) (fun c54 => ?_)
  · rw [Bool.not_eq_true'] at c54
    have c54' := c54
    refine wp_seq_k fun K55 hK55 => ?_
    refine wp_region_lit ?_
    refine q_is (l' := [(.agg #[(Fl r1), (Fl r3), (Fl r5), (Fl r7), (Fl r9), (Fl r11)]), (.agg #[(Fl r13), (Fl r15), (Fl r17), (Fl r19), (Fl r21), (Fl r23)]), (Pt b26 0), (Pt b33 0), (Bo false), (Pt b26 0), (.agg #[(Fl r1), (Fl r3), (Fl r5)]), (Pt b33 0), (.agg #[(Fl r13), (Fl r15), (Fl r17)]), (Bo (sameV A_a.lo A_b.lo)), (Bo (!(sameV A_a.lo A_b.lo))), (Pt b26 3), (.agg #[(Fl r7), (Fl r9), (Fl r11)]), (Pt b33 3), (.agg #[(Fl r19), (Fl r21), (Fl r23)]), (Bo (sameV A_a.hi A_b.hi)), (Bo (!(sameV A_a.hi A_b.hi)))]) rfl rfl (does_assign (u := (Bo false)) (ev rfl)) rfl ?_
    refine wpList_nil (hK55 _ _ ?_)
    refine wp_ret ?_
    dsimp only [Exit.then, Exit.inBlock]
    refine ret_val (v := (Bo false)) (res_T rfl (slot rfl)) X53 ?_
    try simp only [h2, h4, h6, h8, h10, h12, h14, h16, h18, h20, h22, h24] at c46 c54
    have x56 : (sameB A_a A_b) = false := by first | with_reducible rfl | (simp only [sameB, h2, h4, h6, h8, h10, h12, h14, h16, h18, h20, h22, h24, c46, c54]; done) | (simp [sameB, h2, h4, h6, h8, h10, h12, h14, h16, h18, h20, h22, h24, c46, c54]; done) | (revert c46 c54; simp +contextual [sameB, h2, h4, h6, h8, h10, h12, h14, h16, h18, h20, h22, h24]; done) | (rcases c46' with hh | hh <;> simp only [hh, sameB, h2, h4, h6, h8, h10, h12, h14, h16, h18, h20, h22, h24, c46, c54]; done) | (rcases c54' with hh | hh <;> simp only [hh, sameB, h2, h4, h6, h8, h10, h12, h14, h16, h18, h20, h22, h24, c46, c54]; done) | (rcases c54' with hh | hh <;> simp_all [sameB]; done) | (rcases c54' with hh | hh | hh <;> simp_all [sameB]; done) | (rcases c54' with hh | hh | hh | hh <;> simp_all [sameB]; done) | (simp_all [sameB]; done) | rfl
    exact (by first | rfl | rw [x56])
  rw [Bool.not_eq_false'] at c54
  have c54' := c54
  refine wp_skip (hK49 _ _ ?_)
  refine wp_seq_k fun K57 hK57 => ?_
  refine wp_region_lit ?_
  refine q_is (l' := [(.agg #[(Fl r1), (Fl r3), (Fl r5), (Fl r7), (Fl r9), (Fl r11)]), (.agg #[(Fl r13), (Fl r15), (Fl r17), (Fl r19), (Fl r21), (Fl r23)]), (Pt b26 0), (Pt b33 0), (Bo true), (Pt b26 0), (.agg #[(Fl r1), (Fl r3), (Fl r5)]), (Pt b33 0), (.agg #[(Fl r13), (Fl r15), (Fl r17)]), (Bo (sameV A_a.lo A_b.lo)), (Bo (!(sameV A_a.lo A_b.lo))), (Pt b26 3), (.agg #[(Fl r7), (Fl r9), (Fl r11)]), (Pt b33 3), (.agg #[(Fl r19), (Fl r21), (Fl r23)]), (Bo (sameV A_a.hi A_b.hi)), (Bo (!(sameV A_a.hi A_b.hi)))]) rfl rfl (does_assign (u := (Bo true)) (ev rfl)) rfl ?_
  refine wpList_nil (hK57 _ _ ?_)
  refine wp_ret ?_
  refine ret_val (v := (Bo true)) (res_T rfl (slot rfl)) X53 ?_
  try simp only [h2, h4, h6, h8, h10, h12, h14, h16, h18, h20, h22, h24] at c46 c54
  have x58 : (sameB A_a A_b) = true := by first | with_reducible rfl | (simp only [sameB, h2, h4, h6, h8, h10, h12, h14, h16, h18, h20, h22, h24, c46, c54]; done) | (simp [sameB, h2, h4, h6, h8, h10, h12, h14, h16, h18, h20, h22, h24, c46, c54]; done) | (revert c46 c54; simp +contextual [sameB, h2, h4, h6, h8, h10, h12, h14, h16, h18, h20, h22, h24]; done) | (rcases c46' with hh | hh <;> simp only [hh, sameB, h2, h4, h6, h8, h10, h12, h14, h16, h18, h20, h22, h24, c46, c54]; done) | (rcases c54' with hh | hh <;> simp only [hh, sameB, h2, h4, h6, h8, h10, h12, h14, h16, h18, h20, h22, h24, c46, c54]; done) | (rcases c54' with hh | hh <;> simp_all [sameB]; done) | (rcases c54' with hh | hh | hh <;> simp_all [sameB]; done) | (rcases c54' with hh | hh | hh | hh <;> simp_all [sameB]; done) | (simp_all [sameB]; done) | rfl
  exact (by first | rfl | rw [x58])

/- laws.eqVectorS -/
theorem c_laws_eqVectorS (a : Value) (L_a : List V3) (b : Value) (L_b : List V3) (w : World) (hv_a : Sl RV3 3 w a L_a) (hv_b : Sl RV3 3 w b L_b) : Gives Try.prog 18 #[a, b] w (fun v w' => v = (Bo (sameX sameV L_a L_b))) := by
  have hlen_a := Sl.len hv_a; obtain ⟨p_a, q_a, rfl⟩ := Sl.shape hv_a
  have hlen_b := Sl.len hv_b; obtain ⟨p_b, q_b, rfl⟩ := Sl.shape hv_b
  refine enter [(.slice p_a L_a.length q_a), (.slice p_b L_b.length q_b), Ud, Ud, Ud, Ud, Ud, Ud, Ud, Ud, Ud, Ud, Ud, Ud, Ud, Ud, Ud, Ud, Ud, Ud, Ud, Ud, Ud, Ud, Ud, Ud, Ud] Try.func18 rfl Try.ntmps18 rfl ?_
  refine wp_seq_k fun K1 hK1 => ?_
  refine wp_region_lit ?_
  refine q_is (l' := [(.slice p_a L_a.length q_a), (.slice p_b L_b.length q_b), Ud, Ud, (Bo false), Ud, Ud, Ud, Ud, Ud, Ud, Ud, Ud, Ud, Ud, Ud, Ud, Ud, Ud, Ud, Ud, Ud, Ud, Ud, Ud, Ud, Ud]) rfl rfl (does_assign (u := (Bo false)) (ev rfl)) rfl ?_
  refine wpList_nil (hK1 _ _ ?_)
  refine wp_seq_k fun K2 hK2 => ?_
  refine wp_seq_k fun K3 hK3 => ?_
  refine wp_region_lit ?_
  refine q_is (l' := [(.slice p_a L_a.length q_a), (.slice p_b L_b.length q_b), Ud, Ud, (Bo false), Ud, (.slice p_a L_a.length q_a), Ud, Ud, Ud, Ud, Ud, Ud, Ud, Ud, Ud, Ud, Ud, Ud, Ud, Ud, Ud, Ud, Ud, Ud, Ud, Ud]) rfl rfl (does_move (u := (.slice p_a L_a.length q_a)) (ev rfl)) rfl ?_
  refine q_is (l' := [(.slice p_a L_a.length q_a), (.slice p_b L_b.length q_b), Ud, Ud, (Bo false), Ud, (.slice p_a L_a.length q_a), (Iv (L_a.length : Int)), Ud, Ud, Ud, Ud, Ud, Ud, Ud, Ud, Ud, Ud, Ud, Ud, Ud, Ud, Ud, Ud, Ud, Ud, Ud]) rfl rfl (does_len_slice Try.underlying31 (ev rfl)) rfl ?_
  refine q_is (l' := [(.slice p_a L_a.length q_a), (.slice p_b L_b.length q_b), Ud, Ud, (Bo false), Ud, (.slice p_a L_a.length q_a), (Iv (L_a.length : Int)), (.slice p_b L_b.length q_b), Ud, Ud, Ud, Ud, Ud, Ud, Ud, Ud, Ud, Ud, Ud, Ud, Ud, Ud, Ud, Ud, Ud, Ud]) rfl rfl (does_move (u := (.slice p_b L_b.length q_b)) (ev rfl)) rfl ?_
  refine q_is (l' := [(.slice p_a L_a.length q_a), (.slice p_b L_b.length q_b), Ud, Ud, (Bo false), Ud, (.slice p_a L_a.length q_a), (Iv (L_a.length : Int)), (.slice p_b L_b.length q_b), (Iv (L_b.length : Int)), Ud, Ud, Ud, Ud, Ud, Ud, Ud, Ud, Ud, Ud, Ud, Ud, Ud, Ud, Ud, Ud, Ud]) rfl rfl (does_len_slice Try.underlying31 (ev rfl)) rfl ?_
  refine q_is (l' := [(.slice p_a L_a.length q_a), (.slice p_b L_b.length q_b), Ud, Ud, (Bo false), Ud, (.slice p_a L_a.length q_a), (Iv (L_a.length : Int)), (.slice p_b L_b.length q_b), (Iv (L_b.length : Int)), (Bo (icmp .neq (L_a.length : Int) (L_b.length : Int))), Ud, Ud, Ud, Ud, Ud, Ud, Ud, Ud, Ud, Ud, Ud, Ud, Ud, Ud, Ud, Ud]) rfl rfl (does_icmp (p := (L_a.length : Int)) (q := (L_b.length : Int)) (.inr (.inl rfl)) (ev rfl) (ev rfl)) rfl ?_
  refine wpList_nil (hK3 _ _ ?_)
  refine wp_cond_split (t := icmp .neq (L_a.length : Int) (L_b.length : Int)) (ev rfl) (fun c4 => ?_) (fun c4 => ?_)
  · have c4' := c4
    (try simp only [icmp, Bool.and_eq_true, Bool.or_eq_true, Bool.and_eq_false_iff, Bool.or_eq_false_iff, Bool.not_eq_true', Bool.not_eq_false', decide_eq_true_eq, decide_eq_false_iff_not, beq_iff_eq, bne_iff_ne, beq_eq_false_iff_ne, bne_eq_false_iff_eq] at c4')
    refine wp_seq_k fun K5 hK5 => ?_
    refine wp_region_lit ?_
    refine q_is (l' := [(.slice p_a L_a.length q_a), (.slice p_b L_b.length q_b), Ud, Ud, (Bo false), Ud, (.slice p_a L_a.length q_a), (Iv (L_a.length : Int)), (.slice p_b L_b.length q_b), (Iv (L_b.length : Int)), (Bo (icmp .neq (L_a.length : Int) (L_b.length : Int))), Ud, Ud, Ud, Ud, Ud, Ud, Ud, Ud, Ud, Ud, Ud, Ud, Ud, Ud, Ud, Ud]) rfl rfl (does_assign (u := (Bo false)) (ev rfl)) rfl ?_
    refine wpList_nil (hK5 _ _ ?_)
    refine wp_ret ?_
    dsimp only [Exit.then, Exit.inBlock]
    refine ret_val (v := (Bo false)) (res_T rfl (slot rfl)) (Ext.refl w) ?_
    have x6 : (sameX sameV L_a L_b) = false := by first | exact (sameX_len (by omega)) | exact (sameX_not (by omega) (by assumption) (by assumption) (by simp_all)) | exact (sameX_all (by omega) (by omega) hs)
    exact (by first | rfl | rw [x6])
  have c4' := c4
  (try simp only [icmp, Bool.and_eq_true, Bool.or_eq_true, Bool.and_eq_false_iff, Bool.or_eq_false_iff, Bool.not_eq_true', Bool.not_eq_false', decide_eq_true_eq, decide_eq_false_iff_not, beq_iff_eq, bne_iff_ne, beq_eq_false_iff_ne, bne_eq_false_iff_eq] at c4')
  refine wp_skip (hK2 _ _ ?_)
  refine wp_seq_k fun K7 hK7 => ?_
  refine wp_seq_k fun K8 hK8 => ?_
  refine wp_region_lit ?_
  refine q_is (l' := [(.slice p_a L_a.length q_a), (.slice p_b L_b.length q_b), Ud, Ud, (Bo false), (Iv 0), (.slice p_a L_a.length q_a), (Iv (L_a.length : Int)), (.slice p_b L_b.length q_b), (Iv (L_b.length : Int)), (Bo (icmp .neq (L_a.length : Int) (L_b.length : Int))), Ud, Ud, Ud, Ud, Ud, Ud, Ud, Ud, Ud, Ud, Ud, Ud, Ud, Ud, Ud, Ud]) rfl rfl (does_assign (u := (Iv 0)) (ev rfl)) rfl ?_
  refine wpList_nil (hK8 _ _ ?_)
  refine wp_block ?_
  refine loop_ghost (σ := Nat) (fun k a w' => ∃ u9 : Nat → Value, a = fr [(.slice p_a L_a.length q_a), (.slice p_b L_b.length q_b), Ud, Ud, (u9 4), (Iv (k : Int)), (.slice p_a L_a.length q_a), (Iv (L_a.length : Int)), (.slice p_b L_b.length q_b), (Iv (L_b.length : Int)), (Bo (icmp .neq (L_a.length : Int) (L_b.length : Int))), (u9 11), (u9 12), (u9 13), (u9 14), (u9 15), (u9 16), (u9 17), (u9 18), (u9 19), (u9 20), (u9 21), (u9 22), (u9 23), (u9 24), (u9 25), (u9 26)] ∧ Ext w w' ∧ (k ≤ L_a.length ∧ SameXTo sameV L_a L_b k)) (fun k => L_a.length - k) 0 ?_ ?_
  · refine ⟨fun t => (([(.slice p_a L_a.length q_a), (.slice p_b L_b.length q_b), Ud, Ud, (Bo false), (Iv 0), (.slice p_a L_a.length q_a), (Iv (L_a.length : Int)), (.slice p_b L_b.length q_b), (Iv (L_b.length : Int)), (Bo (icmp .neq (L_a.length : Int) (L_b.length : Int))), Ud, Ud, Ud, Ud, Ud, Ud, Ud, Ud, Ud, Ud, Ud, Ud, Ud, Ud, Ud, Ud] : List Value)[t]?).getD undef, rfl, Ext.refl _, ?_⟩
    exact ⟨Nat.zero_le _, SameXTo.zero⟩
  · rintro k a w10 ⟨u9, rfl, E11, ⟨hk, hs⟩⟩
    have X13 := Ext.gr (Ext.refl w) E11
    refine wp_seq_k fun K14 hK14 => ?_
    refine wp_seq_k fun K15 hK15 => ?_
    refine wp_region_lit ?_
    refine q_is (l' := [(.slice p_a L_a.length q_a), (.slice p_b L_b.length q_b), Ud, Ud, (u9 4), (Iv (k : Int)), (.slice p_a L_a.length q_a), (Iv (L_a.length : Int)), (.slice p_b L_b.length q_b), (Iv (L_b.length : Int)), (Bo (icmp .neq (L_a.length : Int) (L_b.length : Int))), (Iv (k : Int)), (u9 12), (u9 13), (u9 14), (u9 15), (u9 16), (u9 17), (u9 18), (u9 19), (u9 20), (u9 21), (u9 22), (u9 23), (u9 24), (u9 25), (u9 26)]) rfl rfl (does_move (u := (Iv (k : Int))) (ev rfl)) rfl ?_
    refine q_is (l' := [(.slice p_a L_a.length q_a), (.slice p_b L_b.length q_b), Ud, Ud, (u9 4), (Iv (k : Int)), (.slice p_a L_a.length q_a), (Iv (L_a.length : Int)), (.slice p_b L_b.length q_b), (Iv (L_b.length : Int)), (Bo (icmp .neq (L_a.length : Int) (L_b.length : Int))), (Iv (k : Int)), (.slice p_a L_a.length q_a), (u9 13), (u9 14), (u9 15), (u9 16), (u9 17), (u9 18), (u9 19), (u9 20), (u9 21), (u9 22), (u9 23), (u9 24), (u9 25), (u9 26)]) rfl rfl (does_move (u := (.slice p_a L_a.length q_a)) (ev rfl)) rfl ?_
    refine q_is (l' := [(.slice p_a L_a.length q_a), (.slice p_b L_b.length q_b), Ud, Ud, (u9 4), (Iv (k : Int)), (.slice p_a L_a.length q_a), (Iv (L_a.length : Int)), (.slice p_b L_b.length q_b), (Iv (L_b.length : Int)), (Bo (icmp .neq (L_a.length : Int) (L_b.length : Int))), (Iv (k : Int)), (.slice p_a L_a.length q_a), (Iv (L_a.length : Int)), (u9 14), (u9 15), (u9 16), (u9 17), (u9 18), (u9 19), (u9 20), (u9 21), (u9 22), (u9 23), (u9 24), (u9 25), (u9 26)]) rfl rfl (does_len_slice Try.underlying31 (ev rfl)) rfl ?_
    refine q_is (l' := [(.slice p_a L_a.length q_a), (.slice p_b L_b.length q_b), Ud, Ud, (u9 4), (Iv (k : Int)), (.slice p_a L_a.length q_a), (Iv (L_a.length : Int)), (.slice p_b L_b.length q_b), (Iv (L_b.length : Int)), (Bo (icmp .neq (L_a.length : Int) (L_b.length : Int))), (Iv (k : Int)), (.slice p_a L_a.length q_a), (Iv (L_a.length : Int)), (Bo (icmp .lss (k : Int) (L_a.length : Int))), (u9 15), (u9 16), (u9 17), (u9 18), (u9 19), (u9 20), (u9 21), (u9 22), (u9 23), (u9 24), (u9 25), (u9 26)]) rfl rfl (does_icmp (p := (k : Int)) (q := (L_a.length : Int)) (.inr (.inr (.inl rfl))) (ev rfl) (ev rfl)) rfl ?_
    refine wpList_nil (hK15 _ _ ?_)
    refine wp_cond_split (t := icmp .lss (k : Int) (L_a.length : Int)) (ev rfl) (fun c16 => ?_) (fun c16 => ?_)
    · have c16' := c16
      (try simp only [icmp, Bool.and_eq_true, Bool.or_eq_true, Bool.and_eq_false_iff, Bool.or_eq_false_iff, Bool.not_eq_true', Bool.not_eq_false', decide_eq_true_eq, decide_eq_false_iff_not, beq_iff_eq, bne_iff_ne, beq_eq_false_iff_ne, bne_eq_false_iff_eq] at c16')
      refine wp_skip (hK14 _ _ ?_)
      refine wp_seq_k fun K17 hK17 => ?_
      refine wp_block ?_
      refine wp_seq_k fun K18 hK18 => ?_
      obtain ⟨el1, hel1⟩ : ∃ e, L_a[k]? = some e := ⟨_, List.getElem?_eq_getElem (by omega)⟩
      obtain ⟨el2, hel2⟩ : ∃ e, L_b[k]? = some e := ⟨_, List.getElem?_eq_getElem (by omega)⟩
      refine region_draw (
        [Fact.pure [] (fun v => v = (.slice p_a L_a.length q_a)),
    Fact.pure [] (fun v => v = (Iv (k : Int))),
    Fact.mem [17, 18] (fun v w' => PtrR RV3 w' v el1) (by intro v w1 w2 hx h; exact h.ext RV3.mono hx),
    Fact.pure [19] (fun v => ∃ cs_1 : List Value, v = (.agg cs_1.toArray) ∧ RV3 w el1 cs_1),
    Fact.pure [] (fun v => v = (.slice p_b L_b.length q_b)),
    Fact.pure [] (fun v => v = (Iv (k : Int))),
    Fact.mem [21, 22] (fun v w' => PtrR RV3 w' v el2) (by intro v w1 w2 hx h; exact h.ext RV3.mono hx),
    Fact.pure [23] (fun v => ∃ cs_1 : List Value, v = (.agg cs_1.toArray) ∧ RV3 w el2 cs_1),
    Fact.pure [20, 24] (fun v => v = (Bo (sameV el1 el2))),
    Fact.pure [25] (fun v => v = (Bo (!(sameV el1 el2))))]) mixed (by kernel_rfl) (by intro _ _ d _ _ h; cases d <;> exact h) ?_
      obtain ⟨w19, hw21⟩ : ∃ w', w' = World.drew w10 := ⟨_, rfl⟩; rw [← hw21]; have E20 : Ext w10 w19 := by rw [hw21]; exact Ext.draw _
      clear hw21
      have X22 := Ext.gr X13 E20
      refine RW_d (fun v23 => [(.slice p_a L_a.length q_a), (.slice p_b L_b.length q_b), Ud, Ud, (u9 4), (Iv (k : Int)), (.slice p_a L_a.length q_a), (Iv (L_a.length : Int)), (.slice p_b L_b.length q_b), (Iv (L_b.length : Int)), (Bo (icmp .neq (L_a.length : Int) (L_b.length : Int))), (Iv (k : Int)), (.slice p_a L_a.length q_a), (Iv (L_a.length : Int)), (Bo (icmp .lss (k : Int) (L_a.length : Int))), (u9 15), (u9 16), v23, (u9 18), (u9 19), (u9 20), (u9 21), (u9 22), (u9 23), (u9 24), (u9 25), (u9 26)]) rfl (fun _ => rfl) (fun u hu hF => ?_) (fun v23 => ?_)
      · clear hF
        refine doesG_un rfl ?_
        refine (does_move (u := (.slice p_a L_a.length q_a)) (ev rfl)).mono ?_; rintro _ _ ⟨rfl, rfl⟩
        exact ⟨rfl, Ext.refl _⟩
      refine RW_d (fun v24 => [(.slice p_a L_a.length q_a), (.slice p_b L_b.length q_b), Ud, Ud, (u9 4), (Iv (k : Int)), (.slice p_a L_a.length q_a), (Iv (L_a.length : Int)), (.slice p_b L_b.length q_b), (Iv (L_b.length : Int)), (Bo (icmp .neq (L_a.length : Int) (L_b.length : Int))), (Iv (k : Int)), (.slice p_a L_a.length q_a), (Iv (L_a.length : Int)), (Bo (icmp .lss (k : Int) (L_a.length : Int))), (u9 15), (u9 16), v23, v24, (u9 19), (u9 20), (u9 21), (u9 22), (u9 23), (u9 24), (u9 25), (u9 26)]) rfl (fun _ => rfl) (fun u hu hF => ?_) (fun v24 => ?_)
      · clear hF
        refine doesG_un rfl ?_
        refine (does_move (u := (Iv (k : Int))) (ev rfl)).mono ?_; rintro _ _ ⟨rfl, rfl⟩
        exact ⟨rfl, Ext.refl _⟩
      refine RW_d (fun v25 => [(.slice p_a L_a.length q_a), (.slice p_b L_b.length q_b), Ud, Ud, (u9 4), (Iv (k : Int)), (.slice p_a L_a.length q_a), (Iv (L_a.length : Int)), (.slice p_b L_b.length q_b), (Iv (L_b.length : Int)), (Bo (icmp .neq (L_a.length : Int) (L_b.length : Int))), (Iv (k : Int)), (.slice p_a L_a.length q_a), (Iv (L_a.length : Int)), (Bo (icmp .lss (k : Int) (L_a.length : Int))), (u9 15), (u9 16), v23, v24, v25, (u9 20), (u9 21), (u9 22), (u9 23), (u9 24), (u9 25), (u9 26)]) rfl (fun _ => rfl) (fun u hu hF => ?_) (fun v25 => ?_)
      · have h17_ : v23 = (.slice p_a L_a.length q_a) := hF.1
        have h18_ : v24 = (Iv (k : Int)) := hF.2.1
        clear hF
        refine doesG_un rfl ?_
        obtain rfl := h17_
        obtain rfl := h18_
        refine (does_indexSl (R := RV3) (i := (k : Int)) (xs := L_a) (e := el1) Try.underlying31 Try.sizeOf26 (ev rfl) (ev rfl) (Sl.ext (Sl.ext hv_a RV3.mono (Ext.gr X13 E20)) RV3.mono hu) (by omega) hel1).mono ?_; rintro v u' ⟨b, of, cs, hv, hc, hR, hu'⟩; subst hu'
        exact ⟨⟨b, of, cs, hv, hc, hR⟩, Ext.refl _⟩
      refine RW_d (fun v26 => [(.slice p_a L_a.length q_a), (.slice p_b L_b.length q_b), Ud, Ud, (u9 4), (Iv (k : Int)), (.slice p_a L_a.length q_a), (Iv (L_a.length : Int)), (.slice p_b L_b.length q_b), (Iv (L_b.length : Int)), (Bo (icmp .neq (L_a.length : Int) (L_b.length : Int))), (Iv (k : Int)), (.slice p_a L_a.length q_a), (Iv (L_a.length : Int)), (Bo (icmp .lss (k : Int) (L_a.length : Int))), (u9 15), (u9 16), v23, v24, v25, v26, (u9 21), (u9 22), (u9 23), (u9 24), (u9 25), (u9 26)]) rfl (fun _ => rfl) (fun u hu hF => ?_) (fun v26 => ?_)
      · have h19_ : PtrR RV3 u v25 el1 := hF.1
        clear hF
        refine doesG_un rfl ?_
        obtain ⟨b19_, o19_, _, rfl, hc19_, ⟨r19_1, r19_3, r19_5, rfl, h19_2, h19_4, h19_6⟩⟩ := h19_
        refine (does_loadAgg (cs := [(Fl r19_1), (Fl r19_3), (Fl r19_5)]) (ev rfl) Try.isAgg26 Try.sizeOf26 hc19_ rfl).mono ?_; rintro _ _ ⟨rfl, rfl⟩
        exact ⟨⟨[(Fl r19_1), (Fl r19_3), (Fl r19_5)], rfl, ⟨r19_1, r19_3, r19_5, rfl, (by first | assumption | rfl), (by first | assumption | rfl), (by first | assumption | rfl)⟩⟩, Ext.refl _⟩
      refine RW_d (fun v27 => [(.slice p_a L_a.length q_a), (.slice p_b L_b.length q_b), Ud, Ud, (u9 4), (Iv (k : Int)), (.slice p_a L_a.length q_a), (Iv (L_a.length : Int)), (.slice p_b L_b.length q_b), (Iv (L_b.length : Int)), (Bo (icmp .neq (L_a.length : Int) (L_b.length : Int))), (Iv (k : Int)), (.slice p_a L_a.length q_a), (Iv (L_a.length : Int)), (Bo (icmp .lss (k : Int) (L_a.length : Int))), (u9 15), (u9 16), v23, v24, v25, v26, v27, (u9 22), (u9 23), (u9 24), (u9 25), (u9 26)]) rfl (fun _ => rfl) (fun u hu hF => ?_) (fun v27 => ?_)
      · clear hF
        refine doesG_un rfl ?_
        refine (does_move (u := (.slice p_b L_b.length q_b)) (ev rfl)).mono ?_; rintro _ _ ⟨rfl, rfl⟩
        exact ⟨rfl, Ext.refl _⟩
      refine RW_d (fun v28 => [(.slice p_a L_a.length q_a), (.slice p_b L_b.length q_b), Ud, Ud, (u9 4), (Iv (k : Int)), (.slice p_a L_a.length q_a), (Iv (L_a.length : Int)), (.slice p_b L_b.length q_b), (Iv (L_b.length : Int)), (Bo (icmp .neq (L_a.length : Int) (L_b.length : Int))), (Iv (k : Int)), (.slice p_a L_a.length q_a), (Iv (L_a.length : Int)), (Bo (icmp .lss (k : Int) (L_a.length : Int))), (u9 15), (u9 16), v23, v24, v25, v26, v27, v28, (u9 23), (u9 24), (u9 25), (u9 26)]) rfl (fun _ => rfl) (fun u hu hF => ?_) (fun v28 => ?_)
      · clear hF
        refine doesG_un rfl ?_
        refine (does_move (u := (Iv (k : Int))) (ev rfl)).mono ?_; rintro _ _ ⟨rfl, rfl⟩
        exact ⟨rfl, Ext.refl _⟩
      refine RW_d (fun v29 => [(.slice p_a L_a.length q_a), (.slice p_b L_b.length q_b), Ud, Ud, (u9 4), (Iv (k : Int)), (.slice p_a L_a.length q_a), (Iv (L_a.length : Int)), (.slice p_b L_b.length q_b), (Iv (L_b.length : Int)), (Bo (icmp .neq (L_a.length : Int) (L_b.length : Int))), (Iv (k : Int)), (.slice p_a L_a.length q_a), (Iv (L_a.length : Int)), (Bo (icmp .lss (k : Int) (L_a.length : Int))), (u9 15), (u9 16), v23, v24, v25, v26, v27, v28, v29, (u9 24), (u9 25), (u9 26)]) rfl (fun _ => rfl) (fun u hu hF => ?_) (fun v29 => ?_)
      · have h21_ : v27 = (.slice p_b L_b.length q_b) := hF.1
        have h22_ : v28 = (Iv (k : Int)) := hF.2.1
        clear hF
        refine doesG_un rfl ?_
        obtain rfl := h21_
        obtain rfl := h22_
        refine (does_indexSl (R := RV3) (i := (k : Int)) (xs := L_b) (e := el2) Try.underlying31 Try.sizeOf26 (ev rfl) (ev rfl) (Sl.ext (Sl.ext hv_b RV3.mono (Ext.gr X13 E20)) RV3.mono hu) (by omega) hel2).mono ?_; rintro v u' ⟨b, of, cs, hv, hc, hR, hu'⟩; subst hu'
        exact ⟨⟨b, of, cs, hv, hc, hR⟩, Ext.refl _⟩
      refine RW_d (fun v30 => [(.slice p_a L_a.length q_a), (.slice p_b L_b.length q_b), Ud, Ud, (u9 4), (Iv (k : Int)), (.slice p_a L_a.length q_a), (Iv (L_a.length : Int)), (.slice p_b L_b.length q_b), (Iv (L_b.length : Int)), (Bo (icmp .neq (L_a.length : Int) (L_b.length : Int))), (Iv (k : Int)), (.slice p_a L_a.length q_a), (Iv (L_a.length : Int)), (Bo (icmp .lss (k : Int) (L_a.length : Int))), (u9 15), (u9 16), v23, v24, v25, v26, v27, v28, v29, v30, (u9 25), (u9 26)]) rfl (fun _ => rfl) (fun u hu hF => ?_) (fun v30 => ?_)
      · have h23_ : PtrR RV3 u v29 el2 := hF.1
        clear hF
        refine doesG_un rfl ?_
        obtain ⟨b23_, o23_, _, rfl, hc23_, ⟨r23_1, r23_3, r23_5, rfl, h23_2, h23_4, h23_6⟩⟩ := h23_
        refine (does_loadAgg (cs := [(Fl r23_1), (Fl r23_3), (Fl r23_5)]) (ev rfl) Try.isAgg26 Try.sizeOf26 hc23_ rfl).mono ?_; rintro _ _ ⟨rfl, rfl⟩
        exact ⟨⟨[(Fl r23_1), (Fl r23_3), (Fl r23_5)], rfl, ⟨r23_1, r23_3, r23_5, rfl, (by first | assumption | rfl), (by first | assumption | rfl), (by first | assumption | rfl)⟩⟩, Ext.refl _⟩
      refine RW_d (fun v31 => [(.slice p_a L_a.length q_a), (.slice p_b L_b.length q_b), Ud, Ud, (u9 4), (Iv (k : Int)), (.slice p_a L_a.length q_a), (Iv (L_a.length : Int)), (.slice p_b L_b.length q_b), (Iv (L_b.length : Int)), (Bo (icmp .neq (L_a.length : Int) (L_b.length : Int))), (Iv (k : Int)), (.slice p_a L_a.length q_a), (Iv (L_a.length : Int)), (Bo (icmp .lss (k : Int) (L_a.length : Int))), (u9 15), (u9 16), v23, v24, v25, v26, v27, v28, v29, v30, v31, (u9 26)]) rfl (fun _ => rfl) (fun u hu hF => ?_) (fun v31 => ?_)
      · have h20_ : ∃ cs_1 : List Value, v26 = (.agg cs_1.toArray) ∧ RV3 w el1 cs_1 := hF.1
        have h24_ : ∃ cs_1 : List Value, v30 = (.agg cs_1.toArray) ∧ RV3 w el2 cs_1 := hF.2.1
        clear hF
        refine doesG_un rfl ?_
        obtain ⟨_, rfl, ⟨r20_1, r20_3, r20_5, rfl, h20_2, h20_4, h20_6⟩⟩ := h20_
        obtain ⟨_, rfl, ⟨r24_1, r24_3, r24_5, rfl, h24_2, h24_4, h24_6⟩⟩ := h24_
        refine (does_call (args := #[(.agg #[(Fl r20_1), (Fl r20_3), (Fl r20_5)]), (.agg #[(Fl r24_1), (Fl r24_3), (Fl r24_5)])]) cal33 (evs rfl) (c_laws_eqVector [(Fl r20_1), (Fl r20_3), (Fl r20_5)] el1 [(Fl r24_1), (Fl r24_3), (Fl r24_5)] el2 _ ⟨r20_1, r20_3, r20_5, rfl, (by assumption), (by assumption), (by assumption)⟩ ⟨r24_1, r24_3, r24_5, rfl, (by assumption), (by assumption), (by assumption)⟩)).mono ?_; rintro v u' ⟨hx, hv⟩
        exact ⟨hv.trans (by simp only [h20_2, h20_4, h20_6, h24_2, h24_4, h24_6]), hx⟩
      refine RW_d (fun v32 => [(.slice p_a L_a.length q_a), (.slice p_b L_b.length q_b), Ud, Ud, (u9 4), (Iv (k : Int)), (.slice p_a L_a.length q_a), (Iv (L_a.length : Int)), (.slice p_b L_b.length q_b), (Iv (L_b.length : Int)), (Bo (icmp .neq (L_a.length : Int) (L_b.length : Int))), (Iv (k : Int)), (.slice p_a L_a.length q_a), (Iv (L_a.length : Int)), (Bo (icmp .lss (k : Int) (L_a.length : Int))), (u9 15), (u9 16), v23, v24, v25, v26, v27, v28, v29, v30, v31, v32]) rfl (fun _ => rfl) (fun u hu hF => ?_) (fun v32 => ?_)
      · have h25_ : v31 = (Bo (sameV el1 el2)) := hF.1
        clear hF
        refine doesG_un rfl ?_
        obtain rfl := h25_
        refine (does_not (ev rfl)).mono ?_; rintro _ _ ⟨rfl, rfl⟩
        exact ⟨rfl, Ext.refl _⟩
      refine RW_fin ?_; intro w33 E34 hP35
      obtain ⟨⟨⟨⟨⟨⟨⟨⟨⟨⟨-, -⟩, -⟩, -⟩, -⟩, -⟩, -⟩, -⟩, -⟩, -⟩, q36⟩ := hP35
      have X37 := Ext.gr X22 E34
      have q36 : v32 = (Bo (!(sameV el1 el2))) := q36
      obtain rfl := q36
      show wpList _ _ _ _ (fr [(.slice p_a L_a.length q_a), (.slice p_b L_b.length q_b), Ud, Ud, (u9 4), (Iv (k : Int)), (.slice p_a L_a.length q_a), (Iv (L_a.length : Int)), (.slice p_b L_b.length q_b), (Iv (L_b.length : Int)), (Bo (icmp .neq (L_a.length : Int) (L_b.length : Int))), (Iv (k : Int)), (.slice p_a L_a.length q_a), (Iv (L_a.length : Int)), (Bo (icmp .lss (k : Int) (L_a.length : Int))), (u9 15), (u9 16), v23, v24, v25, v26, v27, v28, v29, v30, v31, (Bo (!(sameV el1 el2)))]) _
      refine wpList_nil (hK18 _ _ ?_)
      refine wp_cond_split (t := !(sameV el1 el2)) (ev rfl) (fun c38 => ?_) (fun c38 => ?_)
      · rw [Bool.not_eq_true'] at c38
        have c38' := c38
        refine wp_seq_k fun K39 hK39 => ?_
        refine wp_region_lit ?_
        refine q_is (l' := [(.slice p_a L_a.length q_a), (.slice p_b L_b.length q_b), Ud, Ud, (Bo false), (Iv (k : Int)), (.slice p_a L_a.length q_a), (Iv (L_a.length : Int)), (.slice p_b L_b.length q_b), (Iv (L_b.length : Int)), (Bo (icmp .neq (L_a.length : Int) (L_b.length : Int))), (Iv (k : Int)), (.slice p_a L_a.length q_a), (Iv (L_a.length : Int)), (Bo (icmp .lss (k : Int) (L_a.length : Int))), (u9 15), (u9 16), v23, v24, v25, v26, v27, v28, v29, v30, v31, (Bo (!(sameV el1 el2)))]) rfl rfl (does_assign (u := (Bo false)) (ev rfl)) rfl ?_
        refine wpList_nil (hK39 _ _ ?_)
        refine wp_ret ?_
        dsimp only [Exit.then, Exit.inBlock]
        refine ret_val (v := (Bo false)) (res_T rfl (slot rfl)) X37 ?_
        try simp only [hel1, hel2] at c4 c16 c38
        have x40 : (sameX sameV L_a L_b) = false := by first | exact (sameX_len (by omega)) | exact (sameX_not (by omega) (by assumption) (by assumption) (by simp_all)) | exact (sameX_all (by omega) (by omega) hs)
        exact (by first | rfl | rw [x40])
      rw [Bool.not_eq_false'] at c38
      have c38' := c38
      refine wp_skip (hK17 _ _ ?_)
      refine wp_region_lit ?_
      refine q_is (l' := [(.slice p_a L_a.length q_a), (.slice p_b L_b.length q_b), Ud, Ud, (u9 4), (Iv (k : Int)), (.slice p_a L_a.length q_a), (Iv (L_a.length : Int)), (.slice p_b L_b.length q_b), (Iv (L_b.length : Int)), (Bo (icmp .neq (L_a.length : Int) (L_b.length : Int))), (Iv (k : Int)), (.slice p_a L_a.length q_a), (Iv (L_a.length : Int)), (Bo (icmp .lss (k : Int) (L_a.length : Int))), (Iv (k : Int)), (u9 16), v23, v24, v25, v26, v27, v28, v29, v30, v31, (Bo (!(sameV el1 el2)))]) rfl rfl (does_move (u := (Iv (k : Int))) (ev rfl)) rfl ?_
      refine q_is (l' := [(.slice p_a L_a.length q_a), (.slice p_b L_b.length q_b), Ud, Ud, (u9 4), (Iv (k : Int)), (.slice p_a L_a.length q_a), (Iv (L_a.length : Int)), (.slice p_b L_b.length q_b), (Iv (L_b.length : Int)), (Bo (icmp .neq (L_a.length : Int) (L_b.length : Int))), (Iv (k : Int)), (.slice p_a L_a.length q_a), (Iv (L_a.length : Int)), (Bo (icmp .lss (k : Int) (L_a.length : Int))), (Iv (k : Int)), (Iv ((k : Int) + 1)), v23, v24, v25, v26, v27, v28, v29, v30, v31, (Bo (!(sameV el1 el2)))]) rfl rfl (does_iarith (p := (k : Int)) (q := 1) (r := (k : Int) + 1) (ev rfl) (ev rfl) (.inl ⟨rfl, (in_i64 (by omega) (by omega)).symm⟩)) rfl ?_
      refine q_is (l' := [(.slice p_a L_a.length q_a), (.slice p_b L_b.length q_b), Ud, Ud, (u9 4), (Iv ((k : Int) + 1)), (.slice p_a L_a.length q_a), (Iv (L_a.length : Int)), (.slice p_b L_b.length q_b), (Iv (L_b.length : Int)), (Bo (icmp .neq (L_a.length : Int) (L_b.length : Int))), (Iv (k : Int)), (.slice p_a L_a.length q_a), (Iv (L_a.length : Int)), (Bo (icmp .lss (k : Int) (L_a.length : Int))), (Iv (k : Int)), (Iv ((k : Int) + 1)), v23, v24, v25, v26, v27, v28, v29, v30, v31, (Bo (!(sameV el1 el2)))]) rfl rfl (does_assign (u := (Iv ((k : Int) + 1))) (ev rfl)) rfl ?_
      refine wpList_nil ?_
      refine ⟨k + 1, ⟨fun t => (([(.slice p_a L_a.length q_a), (.slice p_b L_b.length q_b), Ud, Ud, (u9 4), (Iv ((k : Int) + 1)), (.slice p_a L_a.length q_a), (Iv (L_a.length : Int)), (.slice p_b L_b.length q_b), (Iv (L_b.length : Int)), (Bo (icmp .neq (L_a.length : Int) (L_b.length : Int))), (Iv (k : Int)), (.slice p_a L_a.length q_a), (Iv (L_a.length : Int)), (Bo (icmp .lss (k : Int) (L_a.length : Int))), (Iv (k : Int)), (Iv ((k : Int) + 1)), v23, v24, v25, v26, v27, v28, v29, v30, v31, (Bo (!(sameV el1 el2)))] : List Value)[t]?).getD undef, ?_, (Ext.gr (Ext.gr E11 E20) E34), ?_⟩, ?_⟩
      · first | rfl | (simp only [Nat.cast_add, Nat.cast_one, Int.natCast_add, Int.natCast_one]; rfl)
      · exact ⟨by omega, SameXTo.step hs (by assumption) (by assumption) (by simp_all)⟩
      · omega
    have c16' := c16
    (try simp only [icmp, Bool.and_eq_true, Bool.or_eq_true, Bool.and_eq_false_iff, Bool.or_eq_false_iff, Bool.not_eq_true', Bool.not_eq_false', decide_eq_true_eq, decide_eq_false_iff_not, beq_iff_eq, bne_iff_ne, beq_eq_false_iff_ne, bne_eq_false_iff_eq] at c16')
    refine wp_exit ?_
    refine hK7 _ _ ?_
    refine wp_seq_k fun K41 hK41 => ?_
    refine wp_region_lit ?_
    refine q_is (l' := [(.slice p_a L_a.length q_a), (.slice p_b L_b.length q_b), Ud, Ud, (Bo true), (Iv (k : Int)), (.slice p_a L_a.length q_a), (Iv (L_a.length : Int)), (.slice p_b L_b.length q_b), (Iv (L_b.length : Int)), (Bo (icmp .neq (L_a.length : Int) (L_b.length : Int))), (Iv (k : Int)), (.slice p_a L_a.length q_a), (Iv (L_a.length : Int)), (Bo (icmp .lss (k : Int) (L_a.length : Int))), (u9 15), (u9 16), (u9 17), (u9 18), (u9 19), (u9 20), (u9 21), (u9 22), (u9 23), (u9 24), (u9 25), (u9 26)]) rfl rfl (does_assign (u := (Bo true)) (ev rfl)) rfl ?_
    refine wpList_nil (hK41 _ _ ?_)
    refine wp_ret ?_
    refine ret_val (v := (Bo true)) (res_T rfl (slot rfl)) X13 ?_
    have x42 : (sameX sameV L_a L_b) = true := by first | exact (sameX_len (by omega)) | exact (sameX_not (by omega) (by assumption) (by assumption) (by simp_all)) | exact (sameX_all (by omega) (by omega) hs)
    exact (by first | rfl | rw [x42])

/- laws.FnExactBoxAround -/
theorem c_laws_FnExactBoxAround (pts : Value) (L_pts : List V3) (w : World) (hv_pts : Sl RV3 3 w pts L_pts) : Gives Try.prog 3 #[pts] w (fun v w' => v = (Bo true)) := by
  have hlen_pts := Sl.len hv_pts; obtain ⟨p_pts, q_pts, rfl⟩ := Sl.shape hv_pts
  refine enter [(.slice p_pts L_pts.length q_pts), Ud, Ud, Ud, Ud, Ud, Ud, Ud, Ud, Ud, Ud, Ud, Ud, Ud, Ud, Ud, Ud, Ud, Ud, Ud, Ud, Ud, Ud, Ud, Ud, Ud, Ud, Ud, Ud, Ud, Ud, Ud, Ud, Ud, Ud, Ud, Ud, Ud, Ud, Ud, Ud] Try.func3 rfl Try.ntmps3 rfl ?_
  refine wp_seq_k fun K1 hK1 => ?_
  refine wp_region_lit ?_
  refine q_is (l' := [(.slice p_pts L_pts.length q_pts), Ud, (Bo false), Ud, Ud, Ud, Ud, Ud, Ud, Ud, Ud, Ud, Ud, Ud, Ud, Ud, Ud, Ud, Ud, Ud, Ud, Ud, Ud, Ud, Ud, Ud, Ud, Ud, Ud, Ud, Ud, Ud, Ud, Ud, Ud, Ud, Ud, Ud, Ud, Ud, Ud]) rfl rfl (does_assign (u := (Bo false)) (ev rfl)) rfl ?_
  refine wpList_nil (hK1 _ _ ?_)
  refine wp_seq_k fun K2 hK2 => ?_
  refine wp_region_lit ?_
  refine q_is (l' := [(.slice p_pts L_pts.length q_pts), Ud, (Bo false), (Iv 1048576), Ud, Ud, Ud, Ud, Ud, Ud, Ud, Ud, Ud, Ud, Ud, Ud, Ud, Ud, Ud, Ud, Ud, Ud, Ud, Ud, Ud, Ud, Ud, Ud, Ud, Ud, Ud, Ud, Ud, Ud, Ud, Ud, Ud, Ud, Ud, Ud, Ud]) rfl rfl (does_assign (u := (Iv 1048576)) (ev rfl)) rfl ?_
  refine wpList_nil (hK2 _ _ ?_)
  refine wp_seq_k fun K3 hK3 => ?_
  refine wp_region_lit ?_
  refine q_is (l' := [(.slice p_pts L_pts.length q_pts), Ud, (Bo false), (Iv 1048576), Ud, Ud, Ud, Ud, Ud, (.slice p_pts L_pts.length q_pts), Ud, Ud, Ud, Ud, Ud, Ud, Ud, Ud, Ud, Ud, Ud, Ud, Ud, Ud, Ud, Ud, Ud, Ud, Ud, Ud, Ud, Ud, Ud, Ud, Ud, Ud, Ud, Ud, Ud, Ud, Ud]) rfl rfl (does_move (u := (.slice p_pts L_pts.length q_pts)) (ev rfl)) rfl ?_
  refine q_is (l' := [(.slice p_pts L_pts.length q_pts), Ud, (Bo false), (Iv 1048576), Ud, Ud, Ud, Ud, Ud, (.slice p_pts L_pts.length q_pts), (Iv 1048576), Ud, Ud, Ud, Ud, Ud, Ud, Ud, Ud, Ud, Ud, Ud, Ud, Ud, Ud, Ud, Ud, Ud, Ud, Ud, Ud, Ud, Ud, Ud, Ud, Ud, Ud, Ud, Ud, Ud, Ud]) rfl rfl (does_move (u := (Iv 1048576)) (ev rfl)) rfl ?_
  refine seqd rfl rfl (does_call (args := #[(.slice p_pts L_pts.length q_pts), (Iv 1048576)]) cal13 (evs rfl) (c_laws_szVectorS (.slice p_pts L_pts.length q_pts) L_pts 1048576 _ hv_pts (by omega) (by omega))) ?_; rintro _ w5 ⟨E4, ⟨i6, rfl, h7⟩⟩
  have X8 := Ext.gr (Ext.refl w) E4
  show wpList _ _ _ _ (fr [(.slice p_pts L_pts.length q_pts), Ud, (Bo false), (Iv 1048576), Ud, Ud, Ud, Ud, Ud, (.slice p_pts L_pts.length q_pts), (Iv 1048576), (Iv i6), Ud, Ud, Ud, Ud, Ud, Ud, Ud, Ud, Ud, Ud, Ud, Ud, Ud, Ud, Ud, Ud, Ud, Ud, Ud, Ud, Ud, Ud, Ud, Ud, Ud, Ud, Ud, Ud, Ud]) _
  refine q_is (l' := [(.slice p_pts L_pts.length q_pts), Ud, (Bo false), (Iv i6), Ud, Ud, Ud, Ud, Ud, (.slice p_pts L_pts.length q_pts), (Iv 1048576), (Iv i6), Ud, Ud, Ud, Ud, Ud, Ud, Ud, Ud, Ud, Ud, Ud, Ud, Ud, Ud, Ud, Ud, Ud, Ud, Ud, Ud, Ud, Ud, Ud, Ud, Ud, Ud, Ud, Ud, Ud]) rfl rfl (does_assign (u := (Iv i6)) (ev rfl)) rfl ?_
  refine wpList_nil (hK3 _ _ ?_)
  refine wp_seq_k fun K9 hK9 => ?_
  refine wp_seq_k fun K10 hK10 => ?_
  refine wp_region_lit ?_
  refine q_is (l' := [(.slice p_pts L_pts.length q_pts), Ud, (Bo false), (Iv i6), Ud, Ud, Ud, Ud, Ud, (.slice p_pts L_pts.length q_pts), (Iv 1048576), (Iv i6), (Iv i6), Ud, Ud, Ud, Ud, Ud, Ud, Ud, Ud, Ud, Ud, Ud, Ud, Ud, Ud, Ud, Ud, Ud, Ud, Ud, Ud, Ud, Ud, Ud, Ud, Ud, Ud, Ud, Ud]) rfl rfl (does_move (u := (Iv i6)) (ev rfl)) rfl ?_
  refine q_is (l' := [(.slice p_pts L_pts.length q_pts), Ud, (Bo false), (Iv i6), Ud, Ud, Ud, Ud, Ud, (.slice p_pts L_pts.length q_pts), (Iv 1048576), (Iv i6), (Iv i6), (Bo (icmp .lss i6 0)), Ud, Ud, Ud, Ud, Ud, Ud, Ud, Ud, Ud, Ud, Ud, Ud, Ud, Ud, Ud, Ud, Ud, Ud, Ud, Ud, Ud, Ud, Ud, Ud, Ud, Ud, Ud]) rfl rfl (does_icmp (p := i6) (q := 0) (.inr (.inr (.inl rfl))) (ev rfl) (ev rfl)) rfl ?_
  refine wpList_nil (hK10 _ _ ?_)
  refine wp_cond_split (t := icmp .lss i6 0) (ev rfl) (fun c11 => ?_) (fun c11 => ?_)
  · have c11' := c11
    (try simp only [icmp, Bool.and_eq_true, Bool.or_eq_true, Bool.and_eq_false_iff, Bool.or_eq_false_iff, Bool.not_eq_true', Bool.not_eq_false', decide_eq_true_eq, decide_eq_false_iff_not, beq_iff_eq, bne_iff_ne, beq_eq_false_iff_ne, bne_eq_false_iff_eq] at c11')
    refine wp_seq_k fun K12 hK12 => ?_
    refine wp_region_lit ?_
    refine q_is (l' := [(.slice p_pts L_pts.length q_pts), Ud, (Bo true), (Iv i6), Ud, Ud, Ud, Ud, Ud, (.slice p_pts L_pts.length q_pts), (Iv 1048576), (Iv i6), (Iv i6), (Bo (icmp .lss i6 0)), Ud, Ud, Ud, Ud, Ud, Ud, Ud, Ud, Ud, Ud, Ud, Ud, Ud, Ud, Ud, Ud, Ud, Ud, Ud, Ud, Ud, Ud, Ud, Ud, Ud, Ud, Ud]) rfl rfl (does_assign (u := (Bo true)) (ev rfl)) rfl ?_
    refine wpList_nil (hK12 _ _ ?_)
    refine wp_ret ?_
    dsimp only [Exit.then, Exit.inBlock]
    refine ret_val (v := (Bo true)) (res_T rfl (slot rfl)) X8 ?_
    exact rfl
  have c11' := c11
  (try simp only [icmp, Bool.and_eq_true, Bool.or_eq_true, Bool.and_eq_false_iff, Bool.or_eq_false_iff, Bool.not_eq_true', Bool.not_eq_false', decide_eq_true_eq, decide_eq_false_iff_not, beq_iff_eq, bne_iff_ne, beq_eq_false_iff_ne, bne_eq_false_iff_eq] at c11')
  refine wp_skip (hK9 _ _ ?_)
  refine wp_seq_k fun K13 hK13 => ?_
  refine wp_region_lit ?_
  refine q_is (l' := [(.slice p_pts L_pts.length q_pts), Ud, (Bo false), (Iv i6), Ud, Ud, Ud, Ud, Ud, (.slice p_pts L_pts.length q_pts), (Iv 1048576), (Iv i6), (Iv i6), (Bo (icmp .lss i6 0)), Ud, (.slice p_pts L_pts.length q_pts), Ud, Ud, Ud, Ud, Ud, Ud, Ud, Ud, Ud, Ud, Ud, Ud, Ud, Ud, Ud, Ud, Ud, Ud, Ud, Ud, Ud, Ud, Ud, Ud, Ud]) rfl rfl (does_move (u := (.slice p_pts L_pts.length q_pts)) (ev rfl)) rfl ?_
  refine seqd rfl rfl (does_call (args := #[(.slice p_pts L_pts.length q_pts)]) cal15 (evs rfl) (c_laws_toVectorS (.slice p_pts L_pts.length q_pts) L_pts _ (Sl.ext hv_pts RV3.mono X8) (by omega))) ?_; rintro _ w15 ⟨E14, ⟨y17, rfl, hh16⟩⟩
  have X18 := Ext.gr X8 E14
  obtain ⟨p19, q20, rfl⟩ := Sl.shape hh16.get
  show wpList _ _ _ _ (fr [(.slice p_pts L_pts.length q_pts), Ud, (Bo false), (Iv i6), Ud, Ud, Ud, Ud, Ud, (.slice p_pts L_pts.length q_pts), (Iv 1048576), (Iv i6), (Iv i6), (Bo (icmp .lss i6 0)), Ud, (.slice p_pts L_pts.length q_pts), (.slice p19 L_pts.length q20), Ud, Ud, Ud, Ud, Ud, Ud, Ud, Ud, Ud, Ud, Ud, Ud, Ud, Ud, Ud, Ud, Ud, Ud, Ud, Ud, Ud, Ud, Ud, Ud]) _
  refine seqd rfl rfl (does_call (args := #[(.slice p19 L_pts.length q20)]) cal14 (evs rfl) (c_spec_BoxAround (.slice p19 L_pts.length q20) L_pts _ hh16.get)) ?_; rintro _ w22 ⟨E21, ⟨_, rfl, ⟨r23, r25, r27, r29, r31, r33, rfl, h24, h26, h28, h30, h32, h34⟩⟩⟩
  have X35 := Ext.gr X18 E21
  show wpList _ _ _ _ (fr [(.slice p_pts L_pts.length q_pts), Ud, (Bo false), (Iv i6), Ud, Ud, Ud, Ud, Ud, (.slice p_pts L_pts.length q_pts), (Iv 1048576), (Iv i6), (Iv i6), (Bo (icmp .lss i6 0)), Ud, (.slice p_pts L_pts.length q_pts), (.slice p19 L_pts.length q20), (.tuple #[(.agg #[(Fl r23), (Fl r25), (Fl r27), (Fl r29), (Fl r31), (Fl r33)]), (Bo (bxOk L_pts))]), Ud, Ud, Ud, Ud, Ud, Ud, Ud, Ud, Ud, Ud, Ud, Ud, Ud, Ud, Ud, Ud, Ud, Ud, Ud, Ud, Ud, Ud, Ud]) _
  refine q_is (l' := [(.slice p_pts L_pts.length q_pts), Ud, (Bo false), (Iv i6), Ud, Ud, Ud, Ud, Ud, (.slice p_pts L_pts.length q_pts), (Iv 1048576), (Iv i6), (Iv i6), (Bo (icmp .lss i6 0)), (.tuple #[(.agg #[(Fl r23), (Fl r25), (Fl r27), (Fl r29), (Fl r31), (Fl r33)]), (Bo (bxOk L_pts))]), (.slice p_pts L_pts.length q_pts), (.slice p19 L_pts.length q20), (.tuple #[(.agg #[(Fl r23), (Fl r25), (Fl r27), (Fl r29), (Fl r31), (Fl r33)]), (Bo (bxOk L_pts))]), Ud, Ud, Ud, Ud, Ud, Ud, Ud, Ud, Ud, Ud, Ud, Ud, Ud, Ud, Ud, Ud, Ud, Ud, Ud, Ud, Ud, Ud, Ud]) rfl rfl (does_move (u := (.tuple #[(.agg #[(Fl r23), (Fl r25), (Fl r27), (Fl r29), (Fl r31), (Fl r33)]), (Bo (bxOk L_pts))])) (ev rfl)) rfl ?_
  refine q_is (l' := [(.slice p_pts L_pts.length q_pts), Ud, (Bo false), (Iv i6), Ud, Ud, Ud, Ud, Ud, (.slice p_pts L_pts.length q_pts), (Iv 1048576), (Iv i6), (Iv i6), (Bo (icmp .lss i6 0)), (.tuple #[(.agg #[(Fl r23), (Fl r25), (Fl r27), (Fl r29), (Fl r31), (Fl r33)]), (Bo (bxOk L_pts))]), (.slice p_pts L_pts.length q_pts), (.slice p19 L_pts.length q20), (.tuple #[(.agg #[(Fl r23), (Fl r25), (Fl r27), (Fl r29), (Fl r31), (Fl r33)]), (Bo (bxOk L_pts))]), (.agg #[(Fl r23), (Fl r25), (Fl r27), (Fl r29), (Fl r31), (Fl r33)]), Ud, Ud, Ud, Ud, Ud, Ud, Ud, Ud, Ud, Ud, Ud, Ud, Ud, Ud, Ud, Ud, Ud, Ud, Ud, Ud, Ud, Ud]) rfl rfl (does_extract (vs := #[(.agg #[(Fl r23), (Fl r25), (Fl r27), (Fl r29), (Fl r31), (Fl r33)]), (Bo (bxOk L_pts))]) (u := (.agg #[(Fl r23), (Fl r25), (Fl r27), (Fl r29), (Fl r31), (Fl r33)])) (ev rfl) rfl) rfl ?_
  refine q_is (l' := [(.slice p_pts L_pts.length q_pts), Ud, (Bo false), (Iv i6), Ud, Ud, Ud, Ud, Ud, (.slice p_pts L_pts.length q_pts), (Iv 1048576), (Iv i6), (Iv i6), (Bo (icmp .lss i6 0)), (.tuple #[(.agg #[(Fl r23), (Fl r25), (Fl r27), (Fl r29), (Fl r31), (Fl r33)]), (Bo (bxOk L_pts))]), (.slice p_pts L_pts.length q_pts), (.slice p19 L_pts.length q20), (.tuple #[(.agg #[(Fl r23), (Fl r25), (Fl r27), (Fl r29), (Fl r31), (Fl r33)]), (Bo (bxOk L_pts))]), (.agg #[(Fl r23), (Fl r25), (Fl r27), (Fl r29), (Fl r31), (Fl r33)]), (Bo (bxOk L_pts)), Ud, Ud, Ud, Ud, Ud, Ud, Ud, Ud, Ud, Ud, Ud, Ud, Ud, Ud, Ud, Ud, Ud, Ud, Ud, Ud, Ud]) rfl rfl (does_extract (vs := #[(.agg #[(Fl r23), (Fl r25), (Fl r27), (Fl r29), (Fl r31), (Fl r33)]), (Bo (bxOk L_pts))]) (u := (Bo (bxOk L_pts))) (ev rfl) rfl) rfl ?_
  refine seqd rfl rfl (does_alloc z28) ?_; rintro _ w40 ⟨b36, rfl, hb37, hB38, E39⟩
  have g41 : w.heap.size ≤ b36 := Nat.le_trans (Below.size X35) hb37
  change Blk _ _ [(Fl 0), (Fl 0), (Fl 0), (Fl 0), (Fl 0), (Fl 0)] at hB38
  have X42 := Ext.gr X35 E39
  show wpList _ _ _ _ (fr [(.slice p_pts L_pts.length q_pts), Ud, (Bo false), (Iv i6), (Pt b36 0), Ud, Ud, Ud, Ud, (.slice p_pts L_pts.length q_pts), (Iv 1048576), (Iv i6), (Iv i6), (Bo (icmp .lss i6 0)), (.tuple #[(.agg #[(Fl r23), (Fl r25), (Fl r27), (Fl r29), (Fl r31), (Fl r33)]), (Bo (bxOk L_pts))]), (.slice p_pts L_pts.length q_pts), (.slice p19 L_pts.length q20), (.tuple #[(.agg #[(Fl r23), (Fl r25), (Fl r27), (Fl r29), (Fl r31), (Fl r33)]), (Bo (bxOk L_pts))]), (.agg #[(Fl r23), (Fl r25), (Fl r27), (Fl r29), (Fl r31), (Fl r33)]), (Bo (bxOk L_pts)), Ud, Ud, Ud, Ud, Ud, Ud, Ud, Ud, Ud, Ud, Ud, Ud, Ud, Ud, Ud, Ud, Ud, Ud, Ud, Ud, Ud]) _
  refine seqn rfl rfl (does_store (n := 6) (cs := [(Fl 0), (Fl 0), (Fl 0), (Fl 0), (Fl 0), (Fl 0)]) (u := (.agg #[(Fl r23), (Fl r25), (Fl r27), (Fl r29), (Fl r31), (Fl r33)])) (ev rfl) (ev rfl) Try.sizeOf28 rfl hB38 (Nat.le_of_ble_eq_true rfl) rfl) ?_; rintro _ w45 ⟨rfl, W43, hB44⟩
  change Blk _ _ [(Fl r23), (Fl r25), (Fl r27), (Fl r29), (Fl r31), (Fl r33)] at hB44
  have X46 := Below.wr X42 W43 g41
  refine q_is (l' := [(.slice p_pts L_pts.length q_pts), Ud, (Bo false), (Iv i6), (Pt b36 0), (Bo (bxOk L_pts)), Ud, Ud, Ud, (.slice p_pts L_pts.length q_pts), (Iv 1048576), (Iv i6), (Iv i6), (Bo (icmp .lss i6 0)), (.tuple #[(.agg #[(Fl r23), (Fl r25), (Fl r27), (Fl r29), (Fl r31), (Fl r33)]), (Bo (bxOk L_pts))]), (.slice p_pts L_pts.length q_pts), (.slice p19 L_pts.length q20), (.tuple #[(.agg #[(Fl r23), (Fl r25), (Fl r27), (Fl r29), (Fl r31), (Fl r33)]), (Bo (bxOk L_pts))]), (.agg #[(Fl r23), (Fl r25), (Fl r27), (Fl r29), (Fl r31), (Fl r33)]), (Bo (bxOk L_pts)), Ud, Ud, Ud, Ud, Ud, Ud, Ud, Ud, Ud, Ud, Ud, Ud, Ud, Ud, Ud, Ud, Ud, Ud, Ud, Ud, Ud]) rfl rfl (does_assign (u := (Bo (bxOk L_pts))) (ev rfl)) rfl ?_
  refine wpList_nil (hK13 _ _ ?_)
  refine wp_seq_k fun K47 hK47 => ?_
  refine wp_region_lit ?_
  refine q_is (l' := [(.slice p_pts L_pts.length q_pts), Ud, (Bo false), (Iv i6), (Pt b36 0), (Bo (bxOk L_pts)), Ud, Ud, Ud, (.slice p_pts L_pts.length q_pts), (Iv 1048576), (Iv i6), (Iv i6), (Bo (icmp .lss i6 0)), (.tuple #[(.agg #[(Fl r23), (Fl r25), (Fl r27), (Fl r29), (Fl r31), (Fl r33)]), (Bo (bxOk L_pts))]), (.slice p_pts L_pts.length q_pts), (.slice p19 L_pts.length q20), (.tuple #[(.agg #[(Fl r23), (Fl r25), (Fl r27), (Fl r29), (Fl r31), (Fl r33)]), (Bo (bxOk L_pts))]), (.agg #[(Fl r23), (Fl r25), (Fl r27), (Fl r29), (Fl r31), (Fl r33)]), (Bo (bxOk L_pts)), (.slice p_pts L_pts.length q_pts), Ud, Ud, Ud, Ud, Ud, Ud, Ud, Ud, Ud, Ud, Ud, Ud, Ud, Ud, Ud, Ud, Ud, Ud, Ud, Ud]) rfl rfl (does_move (u := (.slice p_pts L_pts.length q_pts)) (ev rfl)) rfl ?_
  refine seqd rfl rfl (does_call (args := #[(.slice p_pts L_pts.length q_pts)]) cal15 (evs rfl) (c_laws_toVectorS (.slice p_pts L_pts.length q_pts) L_pts _ (Sl.ext hv_pts RV3.mono X46) (by omega))) ?_; rintro _ w49 ⟨E48, ⟨y51, rfl, hh50⟩⟩
  have X52 := Ext.gr X46 E48
  have n53 : b36 < w45.heap.size := Blk.lt hB44
  obtain ⟨p54, q55, rfl⟩ := Sl.shape hh50.get
  show wpList _ _ _ _ (fr [(.slice p_pts L_pts.length q_pts), Ud, (Bo false), (Iv i6), (Pt b36 0), (Bo (bxOk L_pts)), Ud, Ud, Ud, (.slice p_pts L_pts.length q_pts), (Iv 1048576), (Iv i6), (Iv i6), (Bo (icmp .lss i6 0)), (.tuple #[(.agg #[(Fl r23), (Fl r25), (Fl r27), (Fl r29), (Fl r31), (Fl r33)]), (Bo (bxOk L_pts))]), (.slice p_pts L_pts.length q_pts), (.slice p19 L_pts.length q20), (.tuple #[(.agg #[(Fl r23), (Fl r25), (Fl r27), (Fl r29), (Fl r31), (Fl r33)]), (Bo (bxOk L_pts))]), (.agg #[(Fl r23), (Fl r25), (Fl r27), (Fl r29), (Fl r31), (Fl r33)]), (Bo (bxOk L_pts)), (.slice p_pts L_pts.length q_pts), (.slice p54 L_pts.length q55), Ud, Ud, Ud, Ud, Ud, Ud, Ud, Ud, Ud, Ud, Ud, Ud, Ud, Ud, Ud, Ud, Ud, Ud, Ud]) _
  refine q_is (l' := [(.slice p_pts L_pts.length q_pts), Ud, (Bo false), (Iv i6), (Pt b36 0), (Bo (bxOk L_pts)), (.slice p54 L_pts.length q55), Ud, Ud, (.slice p_pts L_pts.length q_pts), (Iv 1048576), (Iv i6), (Iv i6), (Bo (icmp .lss i6 0)), (.tuple #[(.agg #[(Fl r23), (Fl r25), (Fl r27), (Fl r29), (Fl r31), (Fl r33)]), (Bo (bxOk L_pts))]), (.slice p_pts L_pts.length q_pts), (.slice p19 L_pts.length q20), (.tuple #[(.agg #[(Fl r23), (Fl r25), (Fl r27), (Fl r29), (Fl r31), (Fl r33)]), (Bo (bxOk L_pts))]), (.agg #[(Fl r23), (Fl r25), (Fl r27), (Fl r29), (Fl r31), (Fl r33)]), (Bo (bxOk L_pts)), (.slice p_pts L_pts.length q_pts), (.slice p54 L_pts.length q55), Ud, Ud, Ud, Ud, Ud, Ud, Ud, Ud, Ud, Ud, Ud, Ud, Ud, Ud, Ud, Ud, Ud, Ud, Ud]) rfl rfl (does_assign (u := (.slice p54 L_pts.length q55)) (ev rfl)) rfl ?_
  refine wpList_nil (hK47 _ _ ?_)
  refine wp_seq_k fun K56 hK56 => ?_
  refine wp_region_lit ?_
  refine q_is (l' := [(.slice p_pts L_pts.length q_pts), Ud, (Bo false), (Iv i6), (Pt b36 0), (Bo (bxOk L_pts)), (.slice p54 L_pts.length q55), Ud, Ud, (.slice p_pts L_pts.length q_pts), (Iv 1048576), (Iv i6), (Iv i6), (Bo (icmp .lss i6 0)), (.tuple #[(.agg #[(Fl r23), (Fl r25), (Fl r27), (Fl r29), (Fl r31), (Fl r33)]), (Bo (bxOk L_pts))]), (.slice p_pts L_pts.length q_pts), (.slice p19 L_pts.length q20), (.tuple #[(.agg #[(Fl r23), (Fl r25), (Fl r27), (Fl r29), (Fl r31), (Fl r33)]), (Bo (bxOk L_pts))]), (.agg #[(Fl r23), (Fl r25), (Fl r27), (Fl r29), (Fl r31), (Fl r33)]), (Bo (bxOk L_pts)), (.slice p_pts L_pts.length q_pts), (.slice p54 L_pts.length q55), Ud, (.slice p54 L_pts.length q55), Ud, Ud, Ud, Ud, Ud, Ud, Ud, Ud, Ud, Ud, Ud, Ud, Ud, Ud, Ud, Ud, Ud]) rfl rfl (does_move (u := (.slice p54 L_pts.length q55)) (ev rfl)) rfl ?_
  refine seqd rfl rfl (does_call (args := #[(.slice p54 L_pts.length q55)]) cal16 (evs rfl) (c_impl_BoxAround (.slice p54 L_pts.length q55) L_pts _ hh50.get)) ?_; rintro _ w58 ⟨E57, ⟨_, rfl, ⟨r59, r61, r63, r65, r67, r69, rfl, h60, h62, h64, h66, h68, h70⟩⟩⟩
  have X71 := Ext.gr X52 E57
  show wpList _ _ _ _ (fr [(.slice p_pts L_pts.length q_pts), Ud, (Bo false), (Iv i6), (Pt b36 0), (Bo (bxOk L_pts)), (.slice p54 L_pts.length q55), Ud, Ud, (.slice p_pts L_pts.length q_pts), (Iv 1048576), (Iv i6), (Iv i6), (Bo (icmp .lss i6 0)), (.tuple #[(.agg #[(Fl r23), (Fl r25), (Fl r27), (Fl r29), (Fl r31), (Fl r33)]), (Bo (bxOk L_pts))]), (.slice p_pts L_pts.length q_pts), (.slice p19 L_pts.length q20), (.tuple #[(.agg #[(Fl r23), (Fl r25), (Fl r27), (Fl r29), (Fl r31), (Fl r33)]), (Bo (bxOk L_pts))]), (.agg #[(Fl r23), (Fl r25), (Fl r27), (Fl r29), (Fl r31), (Fl r33)]), (Bo (bxOk L_pts)), (.slice p_pts L_pts.length q_pts), (.slice p54 L_pts.length q55), Ud, (.slice p54 L_pts.length q55), (.tuple #[(.agg #[(Fl r59), (Fl r61), (Fl r63), (Fl r65), (Fl r67), (Fl r69)]), (Bo (bxOk L_pts))]), Ud, Ud, Ud, Ud, Ud, Ud, Ud, Ud, Ud, Ud, Ud, Ud, Ud, Ud, Ud, Ud]) _
  refine q_is (l' := [(.slice p_pts L_pts.length q_pts), Ud, (Bo false), (Iv i6), (Pt b36 0), (Bo (bxOk L_pts)), (.slice p54 L_pts.length q55), Ud, Ud, (.slice p_pts L_pts.length q_pts), (Iv 1048576), (Iv i6), (Iv i6), (Bo (icmp .lss i6 0)), (.tuple #[(.agg #[(Fl r23), (Fl r25), (Fl r27), (Fl r29), (Fl r31), (Fl r33)]), (Bo (bxOk L_pts))]), (.slice p_pts L_pts.length q_pts), (.slice p19 L_pts.length q20), (.tuple #[(.agg #[(Fl r23), (Fl r25), (Fl r27), (Fl r29), (Fl r31), (Fl r33)]), (Bo (bxOk L_pts))]), (.agg #[(Fl r23), (Fl r25), (Fl r27), (Fl r29), (Fl r31), (Fl r33)]), (Bo (bxOk L_pts)), (.slice p_pts L_pts.length q_pts), (.slice p54 L_pts.length q55), (.tuple #[(.agg #[(Fl r59), (Fl r61), (Fl r63), (Fl r65), (Fl r67), (Fl r69)]), (Bo (bxOk L_pts))]), (.slice p54 L_pts.length q55), (.tuple #[(.agg #[(Fl r59), (Fl r61), (Fl r63), (Fl r65), (Fl r67), (Fl r69)]), (Bo (bxOk L_pts))]), Ud, Ud, Ud, Ud, Ud, Ud, Ud, Ud, Ud, Ud, Ud, Ud, Ud, Ud, Ud, Ud]) rfl rfl (does_move (u := (.tuple #[(.agg #[(Fl r59), (Fl r61), (Fl r63), (Fl r65), (Fl r67), (Fl r69)]), (Bo (bxOk L_pts))])) (ev rfl)) rfl ?_
  refine q_is (l' := [(.slice p_pts L_pts.length q_pts), Ud, (Bo false), (Iv i6), (Pt b36 0), (Bo (bxOk L_pts)), (.slice p54 L_pts.length q55), Ud, Ud, (.slice p_pts L_pts.length q_pts), (Iv 1048576), (Iv i6), (Iv i6), (Bo (icmp .lss i6 0)), (.tuple #[(.agg #[(Fl r23), (Fl r25), (Fl r27), (Fl r29), (Fl r31), (Fl r33)]), (Bo (bxOk L_pts))]), (.slice p_pts L_pts.length q_pts), (.slice p19 L_pts.length q20), (.tuple #[(.agg #[(Fl r23), (Fl r25), (Fl r27), (Fl r29), (Fl r31), (Fl r33)]), (Bo (bxOk L_pts))]), (.agg #[(Fl r23), (Fl r25), (Fl r27), (Fl r29), (Fl r31), (Fl r33)]), (Bo (bxOk L_pts)), (.slice p_pts L_pts.length q_pts), (.slice p54 L_pts.length q55), (.tuple #[(.agg #[(Fl r59), (Fl r61), (Fl r63), (Fl r65), (Fl r67), (Fl r69)]), (Bo (bxOk L_pts))]), (.slice p54 L_pts.length q55), (.tuple #[(.agg #[(Fl r59), (Fl r61), (Fl r63), (Fl r65), (Fl r67), (Fl r69)]), (Bo (bxOk L_pts))]), (.agg #[(Fl r59), (Fl r61), (Fl r63), (Fl r65), (Fl r67), (Fl r69)]), Ud, Ud, Ud, Ud, Ud, Ud, Ud, Ud, Ud, Ud, Ud, Ud, Ud, Ud, Ud]) rfl rfl (does_extract (vs := #[(.agg #[(Fl r59), (Fl r61), (Fl r63), (Fl r65), (Fl r67), (Fl r69)]), (Bo (bxOk L_pts))]) (u := (.agg #[(Fl r59), (Fl r61), (Fl r63), (Fl r65), (Fl r67), (Fl r69)])) (ev rfl) rfl) rfl ?_
  refine q_is (l' := [(.slice p_pts L_pts.length q_pts), Ud, (Bo false), (Iv i6), (Pt b36 0), (Bo (bxOk L_pts)), (.slice p54 L_pts.length q55), Ud, Ud, (.slice p_pts L_pts.length q_pts), (Iv 1048576), (Iv i6), (Iv i6), (Bo (icmp .lss i6 0)), (.tuple #[(.agg #[(Fl r23), (Fl r25), (Fl r27), (Fl r29), (Fl r31), (Fl r33)]), (Bo (bxOk L_pts))]), (.slice p_pts L_pts.length q_pts), (.slice p19 L_pts.length q20), (.tuple #[(.agg #[(Fl r23), (Fl r25), (Fl r27), (Fl r29), (Fl r31), (Fl r33)]), (Bo (bxOk L_pts))]), (.agg #[(Fl r23), (Fl r25), (Fl r27), (Fl r29), (Fl r31), (Fl r33)]), (Bo (bxOk L_pts)), (.slice p_pts L_pts.length q_pts), (.slice p54 L_pts.length q55), (.tuple #[(.agg #[(Fl r59), (Fl r61), (Fl r63), (Fl r65), (Fl r67), (Fl r69)]), (Bo (bxOk L_pts))]), (.slice p54 L_pts.length q55), (.tuple #[(.agg #[(Fl r59), (Fl r61), (Fl r63), (Fl r65), (Fl r67), (Fl r69)]), (Bo (bxOk L_pts))]), (.agg #[(Fl r59), (Fl r61), (Fl r63), (Fl r65), (Fl r67), (Fl r69)]), (Bo (bxOk L_pts)), Ud, Ud, Ud, Ud, Ud, Ud, Ud, Ud, Ud, Ud, Ud, Ud, Ud, Ud]) rfl rfl (does_extract (vs := #[(.agg #[(Fl r59), (Fl r61), (Fl r63), (Fl r65), (Fl r67), (Fl r69)]), (Bo (bxOk L_pts))]) (u := (Bo (bxOk L_pts))) (ev rfl) rfl) rfl ?_
  refine seqd rfl rfl (does_alloc z28) ?_; rintro _ w76 ⟨b72, rfl, hb73, hB74, E75⟩
  have n77 : b36 < b72 := Nat.lt_of_lt_of_le (Blk.lt ((hB44.ext E48).ext E57)) hb73
  have g78 : w.heap.size ≤ b72 := Nat.le_trans (Below.size X71) hb73
  change Blk _ _ [(Fl 0), (Fl 0), (Fl 0), (Fl 0), (Fl 0), (Fl 0)] at hB74
  have X79 := Ext.gr X71 E75
  show wpList _ _ _ _ (fr [(.slice p_pts L_pts.length q_pts), Ud, (Bo false), (Iv i6), (Pt b36 0), (Bo (bxOk L_pts)), (.slice p54 L_pts.length q55), (Pt b72 0), Ud, (.slice p_pts L_pts.length q_pts), (Iv 1048576), (Iv i6), (Iv i6), (Bo (icmp .lss i6 0)), (.tuple #[(.agg #[(Fl r23), (Fl r25), (Fl r27), (Fl r29), (Fl r31), (Fl r33)]), (Bo (bxOk L_pts))]), (.slice p_pts L_pts.length q_pts), (.slice p19 L_pts.length q20), (.tuple #[(.agg #[(Fl r23), (Fl r25), (Fl r27), (Fl r29), (Fl r31), (Fl r33)]), (Bo (bxOk L_pts))]), (.agg #[(Fl r23), (Fl r25), (Fl r27), (Fl r29), (Fl r31), (Fl r33)]), (Bo (bxOk L_pts)), (.slice p_pts L_pts.length q_pts), (.slice p54 L_pts.length q55), (.tuple #[(.agg #[(Fl r59), (Fl r61), (Fl r63), (Fl r65), (Fl r67), (Fl r69)]), (Bo (bxOk L_pts))]), (.slice p54 L_pts.length q55), (.tuple #[(.agg #[(Fl r59), (Fl r61), (Fl r63), (Fl r65), (Fl r67), (Fl r69)]), (Bo (bxOk L_pts))]), (.agg #[(Fl r59), (Fl r61), (Fl r63), (Fl r65), (Fl r67), (Fl r69)]), (Bo (bxOk L_pts)), Ud, Ud, Ud, Ud, Ud, Ud, Ud, Ud, Ud, Ud, Ud, Ud, Ud, Ud]) _
  refine seqn rfl rfl (does_store (n := 6) (cs := [(Fl 0), (Fl 0), (Fl 0), (Fl 0), (Fl 0), (Fl 0)]) (u := (.agg #[(Fl r59), (Fl r61), (Fl r63), (Fl r65), (Fl r67), (Fl r69)])) (ev rfl) (ev rfl) Try.sizeOf28 rfl hB74 (Nat.le_of_ble_eq_true rfl) rfl) ?_; rintro _ w82 ⟨rfl, W80, hB81⟩
  change Blk _ _ [(Fl r59), (Fl r61), (Fl r63), (Fl r65), (Fl r67), (Fl r69)] at hB81
  have X83 := Below.wr X79 W80 g78
  refine q_is (l' := [(.slice p_pts L_pts.length q_pts), Ud, (Bo false), (Iv i6), (Pt b36 0), (Bo (bxOk L_pts)), (.slice p54 L_pts.length q55), (Pt b72 0), (Bo (bxOk L_pts)), (.slice p_pts L_pts.length q_pts), (Iv 1048576), (Iv i6), (Iv i6), (Bo (icmp .lss i6 0)), (.tuple #[(.agg #[(Fl r23), (Fl r25), (Fl r27), (Fl r29), (Fl r31), (Fl r33)]), (Bo (bxOk L_pts))]), (.slice p_pts L_pts.length q_pts), (.slice p19 L_pts.length q20), (.tuple #[(.agg #[(Fl r23), (Fl r25), (Fl r27), (Fl r29), (Fl r31), (Fl r33)]), (Bo (bxOk L_pts))]), (.agg #[(Fl r23), (Fl r25), (Fl r27), (Fl r29), (Fl r31), (Fl r33)]), (Bo (bxOk L_pts)), (.slice p_pts L_pts.length q_pts), (.slice p54 L_pts.length q55), (.tuple #[(.agg #[(Fl r59), (Fl r61), (Fl r63), (Fl r65), (Fl r67), (Fl r69)]), (Bo (bxOk L_pts))]), (.slice p54 L_pts.length q55), (.tuple #[(.agg #[(Fl r59), (Fl r61), (Fl r63), (Fl r65), (Fl r67), (Fl r69)]), (Bo (bxOk L_pts))]), (.agg #[(Fl r59), (Fl r61), (Fl r63), (Fl r65), (Fl r67), (Fl r69)]), (Bo (bxOk L_pts)), Ud, Ud, Ud, Ud, Ud, Ud, Ud, Ud, Ud, Ud, Ud, Ud, Ud, Ud]) rfl rfl (does_assign (u := (Bo (bxOk L_pts))) (ev rfl)) rfl ?_
  refine wpList_nil (hK56 _ _ ?_)
  refine wp_seq_k fun K84 hK84 => ?_
  refine wp_seq_k fun K85 hK85 => ?_
  obtain ⟨β1, hβ1⟩ : ∃ b : Bool, b = (sameB (gvA zB (bxOk L_pts) (boxTo L_pts L_pts.length)) (gvA zB (bxOk L_pts) (boxTo L_pts L_pts.length))) := ⟨_, rfl⟩
  obtain ⟨β2, hβ2⟩ : ∃ b : Bool, b = ((bxOk L_pts) != (bxOk L_pts)) := ⟨_, rfl⟩
  refine region_text (
    [Fact.pure [] (fun v => v = (.agg #[(Fl r59), (Fl r61), (Fl r63), (Fl r65), (Fl r67), (Fl r69)])),
    Fact.pure [] (fun v => v = (.agg #[(Fl r23), (Fl r25), (Fl r27), (Fl r29), (Fl r31), (Fl r33)])),
    Fact.pure [27, 28] (fun v => v = (Bo β1)),
    Fact.pure [29] (fun v => v = (Bo (!β1))),
    Fact.pure [30] (fun v => v = (Bo (!β1))),
    Fact.pure [31] (fun v => (!β1) = false → v = (Bo (bxOk L_pts))),
    Fact.pure [31] (fun v => (!β1) = false → v = (Bo (bxOk L_pts))),
    Fact.pure [32, 33, 31] (fun v => (!β1) = false → v = (Bo β2)),
    Fact.pure [31, 34] (fun v => v = (Bo ((!β1) || β2)))]) (by simp [Fact.pure, Fact.mem]) ?_
  refine RW_d (fun v86 => [(.slice p_pts L_pts.length q_pts), Ud, (Bo false), (Iv i6), (Pt b36 0), (Bo (bxOk L_pts)), (.slice p54 L_pts.length q55), (Pt b72 0), (Bo (bxOk L_pts)), (.slice p_pts L_pts.length q_pts), (Iv 1048576), (Iv i6), (Iv i6), (Bo (icmp .lss i6 0)), (.tuple #[(.agg #[(Fl r23), (Fl r25), (Fl r27), (Fl r29), (Fl r31), (Fl r33)]), (Bo (bxOk L_pts))]), (.slice p_pts L_pts.length q_pts), (.slice p19 L_pts.length q20), (.tuple #[(.agg #[(Fl r23), (Fl r25), (Fl r27), (Fl r29), (Fl r31), (Fl r33)]), (Bo (bxOk L_pts))]), (.agg #[(Fl r23), (Fl r25), (Fl r27), (Fl r29), (Fl r31), (Fl r33)]), (Bo (bxOk L_pts)), (.slice p_pts L_pts.length q_pts), (.slice p54 L_pts.length q55), (.tuple #[(.agg #[(Fl r59), (Fl r61), (Fl r63), (Fl r65), (Fl r67), (Fl r69)]), (Bo (bxOk L_pts))]), (.slice p54 L_pts.length q55), (.tuple #[(.agg #[(Fl r59), (Fl r61), (Fl r63), (Fl r65), (Fl r67), (Fl r69)]), (Bo (bxOk L_pts))]), (.agg #[(Fl r59), (Fl r61), (Fl r63), (Fl r65), (Fl r67), (Fl r69)]), (Bo (bxOk L_pts)), v86, Ud, Ud, Ud, Ud, Ud, Ud, Ud, Ud, Ud, Ud, Ud, Ud, Ud]) rfl (fun _ => rfl) (fun u hu hF => ?_) (fun v86 => ?_)
  · clear hF
    refine doesG_un rfl ?_
    refine (does_loadAgg (cs := [(Fl r59), (Fl r61), (Fl r63), (Fl r65), (Fl r67), (Fl r69)]) (ev rfl) Try.isAgg28 Try.sizeOf28 (Blk.cells (hB81.ext hu)) rfl).mono ?_; rintro _ _ ⟨rfl, rfl⟩
    exact ⟨rfl, Ext.refl _⟩
  refine RW_d (fun v87 => [(.slice p_pts L_pts.length q_pts), Ud, (Bo false), (Iv i6), (Pt b36 0), (Bo (bxOk L_pts)), (.slice p54 L_pts.length q55), (Pt b72 0), (Bo (bxOk L_pts)), (.slice p_pts L_pts.length q_pts), (Iv 1048576), (Iv i6), (Iv i6), (Bo (icmp .lss i6 0)), (.tuple #[(.agg #[(Fl r23), (Fl r25), (Fl r27), (Fl r29), (Fl r31), (Fl r33)]), (Bo (bxOk L_pts))]), (.slice p_pts L_pts.length q_pts), (.slice p19 L_pts.length q20), (.tuple #[(.agg #[(Fl r23), (Fl r25), (Fl r27), (Fl r29), (Fl r31), (Fl r33)]), (Bo (bxOk L_pts))]), (.agg #[(Fl r23), (Fl r25), (Fl r27), (Fl r29), (Fl r31), (Fl r33)]), (Bo (bxOk L_pts)), (.slice p_pts L_pts.length q_pts), (.slice p54 L_pts.length q55), (.tuple #[(.agg #[(Fl r59), (Fl r61), (Fl r63), (Fl r65), (Fl r67), (Fl r69)]), (Bo (bxOk L_pts))]), (.slice p54 L_pts.length q55), (.tuple #[(.agg #[(Fl r59), (Fl r61), (Fl r63), (Fl r65), (Fl r67), (Fl r69)]), (Bo (bxOk L_pts))]), (.agg #[(Fl r59), (Fl r61), (Fl r63), (Fl r65), (Fl r67), (Fl r69)]), (Bo (bxOk L_pts)), v86, v87, Ud, Ud, Ud, Ud, Ud, Ud, Ud, Ud, Ud, Ud, Ud, Ud]) rfl (fun _ => rfl) (fun u hu hF => ?_) (fun v87 => ?_)
  · clear hF
    refine doesG_un rfl ?_
    refine (does_loadAgg (cs := [(Fl r23), (Fl r25), (Fl r27), (Fl r29), (Fl r31), (Fl r33)]) (ev rfl) Try.isAgg28 Try.sizeOf28 (Blk.cells (((((hB44.ext E48).ext E57).ext E75).wr W80 (Nat.ne_of_lt n77)).ext hu)) rfl).mono ?_; rintro _ _ ⟨rfl, rfl⟩
    exact ⟨rfl, Ext.refl _⟩
  refine RW_d (fun v88 => [(.slice p_pts L_pts.length q_pts), Ud, (Bo false), (Iv i6), (Pt b36 0), (Bo (bxOk L_pts)), (.slice p54 L_pts.length q55), (Pt b72 0), (Bo (bxOk L_pts)), (.slice p_pts L_pts.length q_pts), (Iv 1048576), (Iv i6), (Iv i6), (Bo (icmp .lss i6 0)), (.tuple #[(.agg #[(Fl r23), (Fl r25), (Fl r27), (Fl r29), (Fl r31), (Fl r33)]), (Bo (bxOk L_pts))]), (.slice p_pts L_pts.length q_pts), (.slice p19 L_pts.length q20), (.tuple #[(.agg #[(Fl r23), (Fl r25), (Fl r27), (Fl r29), (Fl r31), (Fl r33)]), (Bo (bxOk L_pts))]), (.agg #[(Fl r23), (Fl r25), (Fl r27), (Fl r29), (Fl r31), (Fl r33)]), (Bo (bxOk L_pts)), (.slice p_pts L_pts.length q_pts), (.slice p54 L_pts.length q55), (.tuple #[(.agg #[(Fl r59), (Fl r61), (Fl r63), (Fl r65), (Fl r67), (Fl r69)]), (Bo (bxOk L_pts))]), (.slice p54 L_pts.length q55), (.tuple #[(.agg #[(Fl r59), (Fl r61), (Fl r63), (Fl r65), (Fl r67), (Fl r69)]), (Bo (bxOk L_pts))]), (.agg #[(Fl r59), (Fl r61), (Fl r63), (Fl r65), (Fl r67), (Fl r69)]), (Bo (bxOk L_pts)), v86, v87, v88, Ud, Ud, Ud, Ud, Ud, Ud, Ud, Ud, Ud, Ud, Ud]) rfl (fun _ => rfl) (fun u hu hF => ?_) (fun v88 => ?_)
  · have h27_ : v86 = (.agg #[(Fl r59), (Fl r61), (Fl r63), (Fl r65), (Fl r67), (Fl r69)]) := hF.1
    have h28_ : v87 = (.agg #[(Fl r23), (Fl r25), (Fl r27), (Fl r29), (Fl r31), (Fl r33)]) := hF.2.1
    clear hF
    refine doesG_un rfl ?_
    obtain rfl := h27_
    obtain rfl := h28_
    refine (does_call (args := #[(.agg #[(Fl r59), (Fl r61), (Fl r63), (Fl r65), (Fl r67), (Fl r69)]), (.agg #[(Fl r23), (Fl r25), (Fl r27), (Fl r29), (Fl r31), (Fl r33)])]) cal17 (evs rfl) (c_laws_eqBox [(Fl r59), (Fl r61), (Fl r63), (Fl r65), (Fl r67), (Fl r69)] (gvA zB (bxOk L_pts) (boxTo L_pts L_pts.length)) [(Fl r23), (Fl r25), (Fl r27), (Fl r29), (Fl r31), (Fl r33)] (gvA zB (bxOk L_pts) (boxTo L_pts L_pts.length)) _ ⟨r59, r61, r63, r65, r67, r69, rfl, h60, h62, h64, h66, h68, h70⟩ ⟨r23, r25, r27, r29, r31, r33, rfl, h24, h26, h28, h30, h32, h34⟩)).mono ?_; rintro v u' ⟨hx, hv⟩
    exact ⟨hv.trans (by simp only [hβ1]), hx⟩
  refine RW_d (fun v89 => [(.slice p_pts L_pts.length q_pts), Ud, (Bo false), (Iv i6), (Pt b36 0), (Bo (bxOk L_pts)), (.slice p54 L_pts.length q55), (Pt b72 0), (Bo (bxOk L_pts)), (.slice p_pts L_pts.length q_pts), (Iv 1048576), (Iv i6), (Iv i6), (Bo (icmp .lss i6 0)), (.tuple #[(.agg #[(Fl r23), (Fl r25), (Fl r27), (Fl r29), (Fl r31), (Fl r33)]), (Bo (bxOk L_pts))]), (.slice p_pts L_pts.length q_pts), (.slice p19 L_pts.length q20), (.tuple #[(.agg #[(Fl r23), (Fl r25), (Fl r27), (Fl r29), (Fl r31), (Fl r33)]), (Bo (bxOk L_pts))]), (.agg #[(Fl r23), (Fl r25), (Fl r27), (Fl r29), (Fl r31), (Fl r33)]), (Bo (bxOk L_pts)), (.slice p_pts L_pts.length q_pts), (.slice p54 L_pts.length q55), (.tuple #[(.agg #[(Fl r59), (Fl r61), (Fl r63), (Fl r65), (Fl r67), (Fl r69)]), (Bo (bxOk L_pts))]), (.slice p54 L_pts.length q55), (.tuple #[(.agg #[(Fl r59), (Fl r61), (Fl r63), (Fl r65), (Fl r67), (Fl r69)]), (Bo (bxOk L_pts))]), (.agg #[(Fl r59), (Fl r61), (Fl r63), (Fl r65), (Fl r67), (Fl r69)]), (Bo (bxOk L_pts)), v86, v87, v88, v89, Ud, Ud, Ud, Ud, Ud, Ud, Ud, Ud, Ud, Ud]) rfl (fun _ => rfl) (fun u hu hF => ?_) (fun v89 => ?_)
  · have h29_ : v88 = (Bo β1) := hF.1
    clear hF
    refine doesG_un rfl ?_
    obtain rfl := h29_
    refine (does_not (ev rfl)).mono ?_; rintro _ _ ⟨rfl, rfl⟩
    exact ⟨rfl, Ext.refl _⟩
  refine RW_d (fun v90 => [(.slice p_pts L_pts.length q_pts), Ud, (Bo false), (Iv i6), (Pt b36 0), (Bo (bxOk L_pts)), (.slice p54 L_pts.length q55), (Pt b72 0), (Bo (bxOk L_pts)), (.slice p_pts L_pts.length q_pts), (Iv 1048576), (Iv i6), (Iv i6), (Bo (icmp .lss i6 0)), (.tuple #[(.agg #[(Fl r23), (Fl r25), (Fl r27), (Fl r29), (Fl r31), (Fl r33)]), (Bo (bxOk L_pts))]), (.slice p_pts L_pts.length q_pts), (.slice p19 L_pts.length q20), (.tuple #[(.agg #[(Fl r23), (Fl r25), (Fl r27), (Fl r29), (Fl r31), (Fl r33)]), (Bo (bxOk L_pts))]), (.agg #[(Fl r23), (Fl r25), (Fl r27), (Fl r29), (Fl r31), (Fl r33)]), (Bo (bxOk L_pts)), (.slice p_pts L_pts.length q_pts), (.slice p54 L_pts.length q55), (.tuple #[(.agg #[(Fl r59), (Fl r61), (Fl r63), (Fl r65), (Fl r67), (Fl r69)]), (Bo (bxOk L_pts))]), (.slice p54 L_pts.length q55), (.tuple #[(.agg #[(Fl r59), (Fl r61), (Fl r63), (Fl r65), (Fl r67), (Fl r69)]), (Bo (bxOk L_pts))]), (.agg #[(Fl r59), (Fl r61), (Fl r63), (Fl r65), (Fl r67), (Fl r69)]), (Bo (bxOk L_pts)), v86, v87, v88, v89, v90, Ud, Ud, Ud, Ud, Ud, Ud, Ud, Ud, Ud]) rfl (fun _ => rfl) (fun u hu hF => ?_) (fun v90 => ?_)
  · have h30_ : v89 = (Bo (!β1)) := hF.1
    clear hF
    refine doesG_un rfl ?_
    obtain rfl := h30_
    refine (does_move (u := (Bo (!β1))) (ev rfl)).mono ?_; rintro _ _ ⟨rfl, rfl⟩
    exact ⟨rfl, Ext.refl _⟩
  refine RW_d (fun v91 => [(.slice p_pts L_pts.length q_pts), Ud, (Bo false), (Iv i6), (Pt b36 0), (Bo (bxOk L_pts)), (.slice p54 L_pts.length q55), (Pt b72 0), (Bo (bxOk L_pts)), (.slice p_pts L_pts.length q_pts), (Iv 1048576), (Iv i6), (Iv i6), (Bo (icmp .lss i6 0)), (.tuple #[(.agg #[(Fl r23), (Fl r25), (Fl r27), (Fl r29), (Fl r31), (Fl r33)]), (Bo (bxOk L_pts))]), (.slice p_pts L_pts.length q_pts), (.slice p19 L_pts.length q20), (.tuple #[(.agg #[(Fl r23), (Fl r25), (Fl r27), (Fl r29), (Fl r31), (Fl r33)]), (Bo (bxOk L_pts))]), (.agg #[(Fl r23), (Fl r25), (Fl r27), (Fl r29), (Fl r31), (Fl r33)]), (Bo (bxOk L_pts)), (.slice p_pts L_pts.length q_pts), (.slice p54 L_pts.length q55), (.tuple #[(.agg #[(Fl r59), (Fl r61), (Fl r63), (Fl r65), (Fl r67), (Fl r69)]), (Bo (bxOk L_pts))]), (.slice p54 L_pts.length q55), (.tuple #[(.agg #[(Fl r59), (Fl r61), (Fl r63), (Fl r65), (Fl r67), (Fl r69)]), (Bo (bxOk L_pts))]), (.agg #[(Fl r59), (Fl r61), (Fl r63), (Fl r65), (Fl r67), (Fl r69)]), (Bo (bxOk L_pts)), v86, v87, v88, v89, v90, v91, Ud, Ud, Ud, Ud, Ud, Ud, Ud, Ud]) rfl (fun _ => rfl) (fun u hu hF => ?_) (fun v91 => ?_)
  · have h31_ : v90 = (Bo (!β1)) := hF.1
    clear hF
    obtain rfl := h31_
    refine doesG_g (b := (!β1)) rfl (yld rfl rfl) (fun hg1 => ?_) (fun hc => ⟨fun hg1 => absurd hg1 hc, Ext.refl _⟩)
    refine (does_move (u := (Bo (bxOk L_pts))) (ev rfl)).mono ?_; rintro _ _ ⟨rfl, rfl⟩
    exact ⟨fun _ => rfl, Ext.refl _⟩
  refine RW_d (fun v92 => [(.slice p_pts L_pts.length q_pts), Ud, (Bo false), (Iv i6), (Pt b36 0), (Bo (bxOk L_pts)), (.slice p54 L_pts.length q55), (Pt b72 0), (Bo (bxOk L_pts)), (.slice p_pts L_pts.length q_pts), (Iv 1048576), (Iv i6), (Iv i6), (Bo (icmp .lss i6 0)), (.tuple #[(.agg #[(Fl r23), (Fl r25), (Fl r27), (Fl r29), (Fl r31), (Fl r33)]), (Bo (bxOk L_pts))]), (.slice p_pts L_pts.length q_pts), (.slice p19 L_pts.length q20), (.tuple #[(.agg #[(Fl r23), (Fl r25), (Fl r27), (Fl r29), (Fl r31), (Fl r33)]), (Bo (bxOk L_pts))]), (.agg #[(Fl r23), (Fl r25), (Fl r27), (Fl r29), (Fl r31), (Fl r33)]), (Bo (bxOk L_pts)), (.slice p_pts L_pts.length q_pts), (.slice p54 L_pts.length q55), (.tuple #[(.agg #[(Fl r59), (Fl r61), (Fl r63), (Fl r65), (Fl r67), (Fl r69)]), (Bo (bxOk L_pts))]), (.slice p54 L_pts.length q55), (.tuple #[(.agg #[(Fl r59), (Fl r61), (Fl r63), (Fl r65), (Fl r67), (Fl r69)]), (Bo (bxOk L_pts))]), (.agg #[(Fl r59), (Fl r61), (Fl r63), (Fl r65), (Fl r67), (Fl r69)]), (Bo (bxOk L_pts)), v86, v87, v88, v89, v90, v91, v92, Ud, Ud, Ud, Ud, Ud, Ud, Ud]) rfl (fun _ => rfl) (fun u hu hF => ?_) (fun v92 => ?_)
  · have h31_ : v90 = (Bo (!β1)) := hF.1
    clear hF
    obtain rfl := h31_
    refine doesG_g (b := (!β1)) rfl (yld rfl rfl) (fun hg1 => ?_) (fun hc => ⟨fun hg1 => absurd hg1 hc, Ext.refl _⟩)
    refine (does_move (u := (Bo (bxOk L_pts))) (ev rfl)).mono ?_; rintro _ _ ⟨rfl, rfl⟩
    exact ⟨fun _ => rfl, Ext.refl _⟩
  refine RW_d (fun v93 => [(.slice p_pts L_pts.length q_pts), Ud, (Bo false), (Iv i6), (Pt b36 0), (Bo (bxOk L_pts)), (.slice p54 L_pts.length q55), (Pt b72 0), (Bo (bxOk L_pts)), (.slice p_pts L_pts.length q_pts), (Iv 1048576), (Iv i6), (Iv i6), (Bo (icmp .lss i6 0)), (.tuple #[(.agg #[(Fl r23), (Fl r25), (Fl r27), (Fl r29), (Fl r31), (Fl r33)]), (Bo (bxOk L_pts))]), (.slice p_pts L_pts.length q_pts), (.slice p19 L_pts.length q20), (.tuple #[(.agg #[(Fl r23), (Fl r25), (Fl r27), (Fl r29), (Fl r31), (Fl r33)]), (Bo (bxOk L_pts))]), (.agg #[(Fl r23), (Fl r25), (Fl r27), (Fl r29), (Fl r31), (Fl r33)]), (Bo (bxOk L_pts)), (.slice p_pts L_pts.length q_pts), (.slice p54 L_pts.length q55), (.tuple #[(.agg #[(Fl r59), (Fl r61), (Fl r63), (Fl r65), (Fl r67), (Fl r69)]), (Bo (bxOk L_pts))]), (.slice p54 L_pts.length q55), (.tuple #[(.agg #[(Fl r59), (Fl r61), (Fl r63), (Fl r65), (Fl r67), (Fl r69)]), (Bo (bxOk L_pts))]), (.agg #[(Fl r59), (Fl r61), (Fl r63), (Fl r65), (Fl r67), (Fl r69)]), (Bo (bxOk L_pts)), v86, v87, v88, v89, v90, v91, v92, v93, Ud, Ud, Ud, Ud, Ud, Ud]) rfl (fun _ => rfl) (fun u hu hF => ?_) (fun v93 => ?_)
  · have h32_ : (!β1) = false → v91 = (Bo (bxOk L_pts)) := hF.1
    have h33_ : (!β1) = false → v92 = (Bo (bxOk L_pts)) := hF.2.1
    have h31_ : v90 = (Bo (!β1)) := hF.2.2.1
    clear hF
    obtain rfl := h31_
    refine doesG_g (b := (!β1)) rfl (yld rfl rfl) (fun hg1 => ?_) (fun hc => ⟨fun hg1 => absurd hg1 hc, Ext.refl _⟩)
    obtain rfl := h32_ hg1
    obtain rfl := h33_ hg1
    refine (does_bne (p := (bxOk L_pts)) (q := (bxOk L_pts)) Try.underlying4 (ev rfl) (ev rfl)).mono ?_; rintro _ _ ⟨rfl, rfl⟩
    exact ⟨fun _ => (by first | rfl | (show _ = _; simp only [hβ2])), Ext.refl _⟩
  refine RW_d (fun v94 => [(.slice p_pts L_pts.length q_pts), Ud, (Bo false), (Iv i6), (Pt b36 0), (Bo (bxOk L_pts)), (.slice p54 L_pts.length q55), (Pt b72 0), (Bo (bxOk L_pts)), (.slice p_pts L_pts.length q_pts), (Iv 1048576), (Iv i6), (Iv i6), (Bo (icmp .lss i6 0)), (.tuple #[(.agg #[(Fl r23), (Fl r25), (Fl r27), (Fl r29), (Fl r31), (Fl r33)]), (Bo (bxOk L_pts))]), (.slice p_pts L_pts.length q_pts), (.slice p19 L_pts.length q20), (.tuple #[(.agg #[(Fl r23), (Fl r25), (Fl r27), (Fl r29), (Fl r31), (Fl r33)]), (Bo (bxOk L_pts))]), (.agg #[(Fl r23), (Fl r25), (Fl r27), (Fl r29), (Fl r31), (Fl r33)]), (Bo (bxOk L_pts)), (.slice p_pts L_pts.length q_pts), (.slice p54 L_pts.length q55), (.tuple #[(.agg #[(Fl r59), (Fl r61), (Fl r63), (Fl r65), (Fl r67), (Fl r69)]), (Bo (bxOk L_pts))]), (.slice p54 L_pts.length q55), (.tuple #[(.agg #[(Fl r59), (Fl r61), (Fl r63), (Fl r65), (Fl r67), (Fl r69)]), (Bo (bxOk L_pts))]), (.agg #[(Fl r59), (Fl r61), (Fl r63), (Fl r65), (Fl r67), (Fl r69)]), (Bo (bxOk L_pts)), v86, v87, v88, v89, v90, v91, v92, v93, v94, Ud, Ud, Ud, Ud, Ud]) rfl (fun _ => rfl) (fun u hu hF => ?_) (fun v94 => ?_)
  · have h31_ : v90 = (Bo (!β1)) := hF.1
    have h34_ : (!β1) = false → v93 = (Bo β2) := hF.2.1
    clear hF
    refine doesG_un rfl ?_
    skip
    obtain rfl := h31_
    refine (does_pick (b := (!β1)) (ev rfl) (ev rfl) (ev rfl)).mono ?_; rintro _ _ ⟨rfl, rfl⟩; refine ⟨?_, Ext.refl _⟩; skip
    cases hbb : (!β1) <;> simp [hbb] at h34_ ⊢
    all_goals (first | rfl | (subst h34_; rfl) | simp_all)
  refine RW_fin ?_; intro w95 E96 hP97
  obtain ⟨⟨⟨⟨⟨⟨⟨⟨⟨-, -⟩, -⟩, -⟩, -⟩, -⟩, -⟩, -⟩, -⟩, q98⟩ := hP97
  have X99 := Ext.gr X83 E96
  have q98 : v94 = (Bo ((!β1) || β2)) := q98
  obtain rfl := q98
  show wpList _ _ _ _ (fr [(.slice p_pts L_pts.length q_pts), Ud, (Bo false), (Iv i6), (Pt b36 0), (Bo (bxOk L_pts)), (.slice p54 L_pts.length q55), (Pt b72 0), (Bo (bxOk L_pts)), (.slice p_pts L_pts.length q_pts), (Iv 1048576), (Iv i6), (Iv i6), (Bo (icmp .lss i6 0)), (.tuple #[(.agg #[(Fl r23), (Fl r25), (Fl r27), (Fl r29), (Fl r31), (Fl r33)]), (Bo (bxOk L_pts))]), (.slice p_pts L_pts.length q_pts), (.slice p19 L_pts.length q20), (.tuple #[(.agg #[(Fl r23), (Fl r25), (Fl r27), (Fl r29), (Fl r31), (Fl r33)]), (Bo (bxOk L_pts))]), (.agg #[(Fl r23), (Fl r25), (Fl r27), (Fl r29), (Fl r31), (Fl r33)]), (Bo (bxOk L_pts)), (.slice p_pts L_pts.length q_pts), (.slice p54 L_pts.length q55), (.tuple #[(.agg #[(Fl r59), (Fl r61), (Fl r63), (Fl r65), (Fl r67), (Fl r69)]), (Bo (bxOk L_pts))]), (.slice p54 L_pts.length q55), (.tuple #[(.agg #[(Fl r59), (Fl r61), (Fl r63), (Fl r65), (Fl r67), (Fl r69)]), (Bo (bxOk L_pts))]), (.agg #[(Fl r59), (Fl r61), (Fl r63), (Fl r65), (Fl r67), (Fl r69)]), (Bo (bxOk L_pts)), v86, v87, v88, v89, v90, v91, v92, v93, (Bo ((!β1) || β2)), Ud, Ud, Ud, Ud, Ud]) _
  refine wpList_nil (hK85 _ _ ?_)
  refine wp_cond_split (t := (!β1) || β2) (ev rfl) (fun c100 => ?_) (fun c100 => ?_)
  · have c100' := c100
    (try simp only [hβ1, hβ2] at c100')
    (try simp only [icmp, Bool.and_eq_true, Bool.or_eq_true, Bool.and_eq_false_iff, Bool.or_eq_false_iff, Bool.not_eq_true', Bool.not_eq_false', decide_eq_true_eq, decide_eq_false_iff_not, beq_iff_eq, bne_iff_ne, beq_eq_false_iff_ne, bne_eq_false_iff_eq] at c100')
    refine wp_seq_k fun K101 hK101 => ?_
    refine wp_region_lit ?_
    refine q_is (l' := [(.slice p_pts L_pts.length q_pts), Ud, (Bo false), (Iv i6), (Pt b36 0), (Bo (bxOk L_pts)), (.slice p54 L_pts.length q55), (Pt b72 0), (Bo (bxOk L_pts)), (.slice p_pts L_pts.length q_pts), (Iv 1048576), (Iv i6), (Iv i6), (Bo (icmp .lss i6 0)), (.tuple #[(.agg #[(Fl r23), (Fl r25), (Fl r27), (Fl r29), (Fl r31), (Fl r33)]), (Bo (bxOk L_pts))]), (.slice p_pts L_pts.length q_pts), (.slice p19 L_pts.length q20), (.tuple #[(.agg #[(Fl r23), (Fl r25), (Fl r27), (Fl r29), (Fl r31), (Fl r33)]), (Bo (bxOk L_pts))]), (.agg #[(Fl r23), (Fl r25), (Fl r27), (Fl r29), (Fl r31), (Fl r33)]), (Bo (bxOk L_pts)), (.slice p_pts L_pts.length q_pts), (.slice p54 L_pts.length q55), (.tuple #[(.agg #[(Fl r59), (Fl r61), (Fl r63), (Fl r65), (Fl r67), (Fl r69)]), (Bo (bxOk L_pts))]), (.slice p54 L_pts.length q55), (.tuple #[(.agg #[(Fl r59), (Fl r61), (Fl r63), (Fl r65), (Fl r67), (Fl r69)]), (Bo (bxOk L_pts))]), (.agg #[(Fl r59), (Fl r61), (Fl r63), (Fl r65), (Fl r67), (Fl r69)]), (Bo (bxOk L_pts)), v86, v87, v88, v89, v90, v91, v92, v93, (Bo ((!β1) || β2)), Ud, Ud, Ud, Ud, Ud]) rfl rfl (does_assign (u := (Bo false)) (ev rfl)) rfl ?_
    refine wpList_nil (hK101 _ _ ?_)
    refine wp_ret ?_
    dsimp only [Exit.then, Exit.inBlock]
    refine ret_val (v := (Bo false)) (res_T rfl (slot rfl)) X99 ?_
    try simp only [h24, h26, h28, h30, h32, h34, h60, h62, h64, h66, h68, h70, hβ1, hβ2] at c11 c100
    have x102 : true = false := by first | with_reducible rfl | (simp only [sameB_self, sameX_selfV, bne_self_eq_false, h24, h26, h28, h30, h32, h34, h60, h62, h64, h66, h68, h70, hβ1, hβ2, c11, c100]; done) | (simp [sameB_self, sameX_selfV, bne_self_eq_false, h24, h26, h28, h30, h32, h34, h60, h62, h64, h66, h68, h70, hβ1, hβ2, c11, c100]; done) | (revert c11 c100; simp +contextual [sameB_self, sameX_selfV, bne_self_eq_false, h24, h26, h28, h30, h32, h34, h60, h62, h64, h66, h68, h70, hβ1, hβ2]; done) | (rcases c11' with hh | hh <;> simp only [hh, sameB_self, sameX_selfV, bne_self_eq_false, h24, h26, h28, h30, h32, h34, h60, h62, h64, h66, h68, h70, hβ1, hβ2, c11, c100]; done) | (rcases c100' with hh | hh <;> simp only [hh, sameB_self, sameX_selfV, bne_self_eq_false, h24, h26, h28, h30, h32, h34, h60, h62, h64, h66, h68, h70, hβ1, hβ2, c11, c100]; done) | (rcases c100' with hh | hh <;> simp_all [sameB_self, sameX_selfV, bne_self_eq_false]; done) | (rcases c100' with hh | hh | hh <;> simp_all [sameB_self, sameX_selfV, bne_self_eq_false]; done) | (rcases c100' with hh | hh | hh | hh <;> simp_all [sameB_self, sameX_selfV, bne_self_eq_false]; done) | (simp_all [sameB_self, sameX_selfV, bne_self_eq_false]; done) | rfl
    exact (by first | rfl | rw [x102])
  have c100' := c100
  (try simp only [hβ1, hβ2] at c100')
  (try simp only [icmp, Bool.and_eq_true, Bool.or_eq_true, Bool.and_eq_false_iff, Bool.or_eq_false_iff, Bool.not_eq_true', Bool.not_eq_false', decide_eq_true_eq, decide_eq_false_iff_not, beq_iff_eq, bne_iff_ne, beq_eq_false_iff_ne, bne_eq_false_iff_eq] at c100')
  refine wp_skip (hK84 _ _ ?_)
  refine wp_seq_k fun K103 hK103 => ?_
  refine wp_seq_k fun K104 hK104 => ?_
  refine wp_region_lit ?_
  refine q_is (l' := [(.slice p_pts L_pts.length q_pts), Ud, (Bo false), (Iv i6), (Pt b36 0), (Bo (bxOk L_pts)), (.slice p54 L_pts.length q55), (Pt b72 0), (Bo (bxOk L_pts)), (.slice p_pts L_pts.length q_pts), (Iv 1048576), (Iv i6), (Iv i6), (Bo (icmp .lss i6 0)), (.tuple #[(.agg #[(Fl r23), (Fl r25), (Fl r27), (Fl r29), (Fl r31), (Fl r33)]), (Bo (bxOk L_pts))]), (.slice p_pts L_pts.length q_pts), (.slice p19 L_pts.length q20), (.tuple #[(.agg #[(Fl r23), (Fl r25), (Fl r27), (Fl r29), (Fl r31), (Fl r33)]), (Bo (bxOk L_pts))]), (.agg #[(Fl r23), (Fl r25), (Fl r27), (Fl r29), (Fl r31), (Fl r33)]), (Bo (bxOk L_pts)), (.slice p_pts L_pts.length q_pts), (.slice p54 L_pts.length q55), (.tuple #[(.agg #[(Fl r59), (Fl r61), (Fl r63), (Fl r65), (Fl r67), (Fl r69)]), (Bo (bxOk L_pts))]), (.slice p54 L_pts.length q55), (.tuple #[(.agg #[(Fl r59), (Fl r61), (Fl r63), (Fl r65), (Fl r67), (Fl r69)]), (Bo (bxOk L_pts))]), (.agg #[(Fl r59), (Fl r61), (Fl r63), (Fl r65), (Fl r67), (Fl r69)]), (Bo (bxOk L_pts)), v86, v87, v88, v89, v90, v91, v92, v93, (Bo ((!β1) || β2)), (.slice p54 L_pts.length q55), Ud, Ud, Ud, Ud]) rfl rfl (does_move (u := (.slice p54 L_pts.length q55)) (ev rfl)) rfl ?_
  refine q_is (l' := [(.slice p_pts L_pts.length q_pts), Ud, (Bo false), (Iv i6), (Pt b36 0), (Bo (bxOk L_pts)), (.slice p54 L_pts.length q55), (Pt b72 0), (Bo (bxOk L_pts)), (.slice p_pts L_pts.length q_pts), (Iv 1048576), (Iv i6), (Iv i6), (Bo (icmp .lss i6 0)), (.tuple #[(.agg #[(Fl r23), (Fl r25), (Fl r27), (Fl r29), (Fl r31), (Fl r33)]), (Bo (bxOk L_pts))]), (.slice p_pts L_pts.length q_pts), (.slice p19 L_pts.length q20), (.tuple #[(.agg #[(Fl r23), (Fl r25), (Fl r27), (Fl r29), (Fl r31), (Fl r33)]), (Bo (bxOk L_pts))]), (.agg #[(Fl r23), (Fl r25), (Fl r27), (Fl r29), (Fl r31), (Fl r33)]), (Bo (bxOk L_pts)), (.slice p_pts L_pts.length q_pts), (.slice p54 L_pts.length q55), (.tuple #[(.agg #[(Fl r59), (Fl r61), (Fl r63), (Fl r65), (Fl r67), (Fl r69)]), (Bo (bxOk L_pts))]), (.slice p54 L_pts.length q55), (.tuple #[(.agg #[(Fl r59), (Fl r61), (Fl r63), (Fl r65), (Fl r67), (Fl r69)]), (Bo (bxOk L_pts))]), (.agg #[(Fl r59), (Fl r61), (Fl r63), (Fl r65), (Fl r67), (Fl r69)]), (Bo (bxOk L_pts)), v86, v87, v88, v89, v90, v91, v92, v93, (Bo ((!β1) || β2)), (.slice p54 L_pts.length q55), (.slice p_pts L_pts.length q_pts), Ud, Ud, Ud]) rfl rfl (does_move (u := (.slice p_pts L_pts.length q_pts)) (ev rfl)) rfl ?_
  refine seqd rfl rfl (does_call (args := #[(.slice p_pts L_pts.length q_pts)]) cal15 (evs rfl) (c_laws_toVectorS (.slice p_pts L_pts.length q_pts) L_pts _ (Sl.ext hv_pts RV3.mono X99) (by omega))) ?_; rintro _ w106 ⟨E105, ⟨y108, rfl, hh107⟩⟩
  have X109 := Ext.gr X99 E105
  have n110 : b36 < w95.heap.size := Blk.lt (((((hB44.ext E48).ext E57).ext E75).wr W80 (Nat.ne_of_lt n77)).ext E96)
  have n111 : b72 < w95.heap.size := Blk.lt (hB81.ext E96)
  obtain ⟨p112, q113, rfl⟩ := Sl.shape hh107.get
  show wpList _ _ _ _ (fr [(.slice p_pts L_pts.length q_pts), Ud, (Bo false), (Iv i6), (Pt b36 0), (Bo (bxOk L_pts)), (.slice p54 L_pts.length q55), (Pt b72 0), (Bo (bxOk L_pts)), (.slice p_pts L_pts.length q_pts), (Iv 1048576), (Iv i6), (Iv i6), (Bo (icmp .lss i6 0)), (.tuple #[(.agg #[(Fl r23), (Fl r25), (Fl r27), (Fl r29), (Fl r31), (Fl r33)]), (Bo (bxOk L_pts))]), (.slice p_pts L_pts.length q_pts), (.slice p19 L_pts.length q20), (.tuple #[(.agg #[(Fl r23), (Fl r25), (Fl r27), (Fl r29), (Fl r31), (Fl r33)]), (Bo (bxOk L_pts))]), (.agg #[(Fl r23), (Fl r25), (Fl r27), (Fl r29), (Fl r31), (Fl r33)]), (Bo (bxOk L_pts)), (.slice p_pts L_pts.length q_pts), (.slice p54 L_pts.length q55), (.tuple #[(.agg #[(Fl r59), (Fl r61), (Fl r63), (Fl r65), (Fl r67), (Fl r69)]), (Bo (bxOk L_pts))]), (.slice p54 L_pts.length q55), (.tuple #[(.agg #[(Fl r59), (Fl r61), (Fl r63), (Fl r65), (Fl r67), (Fl r69)]), (Bo (bxOk L_pts))]), (.agg #[(Fl r59), (Fl r61), (Fl r63), (Fl r65), (Fl r67), (Fl r69)]), (Bo (bxOk L_pts)), v86, v87, v88, v89, v90, v91, v92, v93, (Bo ((!β1) || β2)), (.slice p54 L_pts.length q55), (.slice p_pts L_pts.length q_pts), (.slice p112 L_pts.length q113), Ud, Ud]) _
  refine seqd rfl rfl (does_call (args := #[(.slice p54 L_pts.length q55), (.slice p112 L_pts.length q113)]) cal18 (evs rfl) (c_laws_eqVectorS (.slice p54 L_pts.length q55) L_pts (.slice p112 L_pts.length q113) L_pts _ (hh50 _ ((((((Same.refl _ _).ext E57).ext E75).wr W80 (.inr (Nat.le_trans (Below.size (Ext.gr (Ext.refl _) E57)) hb73))).ext E96).ext E105)) hh107.get)) ?_; rintro _ w115 ⟨E114, rfl⟩
  have X116 := Ext.gr X109 E114
  show wpList _ _ _ _ (fr [(.slice p_pts L_pts.length q_pts), Ud, (Bo false), (Iv i6), (Pt b36 0), (Bo (bxOk L_pts)), (.slice p54 L_pts.length q55), (Pt b72 0), (Bo (bxOk L_pts)), (.slice p_pts L_pts.length q_pts), (Iv 1048576), (Iv i6), (Iv i6), (Bo (icmp .lss i6 0)), (.tuple #[(.agg #[(Fl r23), (Fl r25), (Fl r27), (Fl r29), (Fl r31), (Fl r33)]), (Bo (bxOk L_pts))]), (.slice p_pts L_pts.length q_pts), (.slice p19 L_pts.length q20), (.tuple #[(.agg #[(Fl r23), (Fl r25), (Fl r27), (Fl r29), (Fl r31), (Fl r33)]), (Bo (bxOk L_pts))]), (.agg #[(Fl r23), (Fl r25), (Fl r27), (Fl r29), (Fl r31), (Fl r33)]), (Bo (bxOk L_pts)), (.slice p_pts L_pts.length q_pts), (.slice p54 L_pts.length q55), (.tuple #[(.agg #[(Fl r59), (Fl r61), (Fl r63), (Fl r65), (Fl r67), (Fl r69)]), (Bo (bxOk L_pts))]), (.slice p54 L_pts.length q55), (.tuple #[(.agg #[(Fl r59), (Fl r61), (Fl r63), (Fl r65), (Fl r67), (Fl r69)]), (Bo (bxOk L_pts))]), (.agg #[(Fl r59), (Fl r61), (Fl r63), (Fl r65), (Fl r67), (Fl r69)]), (Bo (bxOk L_pts)), v86, v87, v88, v89, v90, v91, v92, v93, (Bo ((!β1) || β2)), (.slice p54 L_pts.length q55), (.slice p_pts L_pts.length q_pts), (.slice p112 L_pts.length q113), (Bo (sameX sameV L_pts L_pts)), Ud]) _
  refine q_is (l' := [(.slice p_pts L_pts.length q_pts), Ud, (Bo false), (Iv i6), (Pt b36 0), (Bo (bxOk L_pts)), (.slice p54 L_pts.length q55), (Pt b72 0), (Bo (bxOk L_pts)), (.slice p_pts L_pts.length q_pts), (Iv 1048576), (Iv i6), (Iv i6), (Bo (icmp .lss i6 0)), (.tuple #[(.agg #[(Fl r23), (Fl r25), (Fl r27), (Fl r29), (Fl r31), (Fl r33)]), (Bo (bxOk L_pts))]), (.slice p_pts L_pts.length q_pts), (.slice p19 L_pts.length q20), (.tuple #[(.agg #[(Fl r23), (Fl r25), (Fl r27), (Fl r29), (Fl r31), (Fl r33)]), (Bo (bxOk L_pts))]), (.agg #[(Fl r23), (Fl r25), (Fl r27), (Fl r29), (Fl r31), (Fl r33)]), (Bo (bxOk L_pts)), (.slice p_pts L_pts.length q_pts), (.slice p54 L_pts.length q55), (.tuple #[(.agg #[(Fl r59), (Fl r61), (Fl r63), (Fl r65), (Fl r67), (Fl r69)]), (Bo (bxOk L_pts))]), (.slice p54 L_pts.length q55), (.tuple #[(.agg #[(Fl r59), (Fl r61), (Fl r63), (Fl r65), (Fl r67), (Fl r69)]), (Bo (bxOk L_pts))]), (.agg #[(Fl r59), (Fl r61), (Fl r63), (Fl r65), (Fl r67), (Fl r69)]), (Bo (bxOk L_pts)), v86, v87, v88, v89, v90, v91, v92, v93, (Bo ((!β1) || β2)), (.slice p54 L_pts.length q55), (.slice p_pts L_pts.length q_pts), (.slice p112 L_pts.length q113), (Bo (sameX sameV L_pts L_pts)), (Bo (!(sameX sameV L_pts L_pts)))]) rfl rfl (does_not (ev rfl)) rfl ?_
  refine wpList_nil (hK104 _ _ ?_)
  refine wp_cond_split (t := !(sameX sameV L_pts L_pts)) (ev rfl) (fun c117 => ?_) (fun c117 => ?_)
  · rw [Bool.not_eq_true'] at c117
    have c117' := c117
    (try simp only [hβ1, hβ2] at c117')
    (try simp only [icmp, Bool.and_eq_true, Bool.or_eq_true, Bool.and_eq_false_iff, Bool.or_eq_false_iff, Bool.not_eq_true', Bool.not_eq_false', decide_eq_true_eq, decide_eq_false_iff_not, beq_iff_eq, bne_iff_ne, beq_eq_false_iff_ne, bne_eq_false_iff_eq] at c117')
    refine wp_seq_k fun K118 hK118 => ?_
    refine wp_region_lit ?_
    refine q_is (l' := [(.slice p_pts L_pts.length q_pts), Ud, (Bo false), (Iv i6), (Pt b36 0), (Bo (bxOk L_pts)), (.slice p54 L_pts.length q55), (Pt b72 0), (Bo (bxOk L_pts)), (.slice p_pts L_pts.length q_pts), (Iv 1048576), (Iv i6), (Iv i6), (Bo (icmp .lss i6 0)), (.tuple #[(.agg #[(Fl r23), (Fl r25), (Fl r27), (Fl r29), (Fl r31), (Fl r33)]), (Bo (bxOk L_pts))]), (.slice p_pts L_pts.length q_pts), (.slice p19 L_pts.length q20), (.tuple #[(.agg #[(Fl r23), (Fl r25), (Fl r27), (Fl r29), (Fl r31), (Fl r33)]), (Bo (bxOk L_pts))]), (.agg #[(Fl r23), (Fl r25), (Fl r27), (Fl r29), (Fl r31), (Fl r33)]), (Bo (bxOk L_pts)), (.slice p_pts L_pts.length q_pts), (.slice p54 L_pts.length q55), (.tuple #[(.agg #[(Fl r59), (Fl r61), (Fl r63), (Fl r65), (Fl r67), (Fl r69)]), (Bo (bxOk L_pts))]), (.slice p54 L_pts.length q55), (.tuple #[(.agg #[(Fl r59), (Fl r61), (Fl r63), (Fl r65), (Fl r67), (Fl r69)]), (Bo (bxOk L_pts))]), (.agg #[(Fl r59), (Fl r61), (Fl r63), (Fl r65), (Fl r67), (Fl r69)]), (Bo (bxOk L_pts)), v86, v87, v88, v89, v90, v91, v92, v93, (Bo ((!β1) || β2)), (.slice p54 L_pts.length q55), (.slice p_pts L_pts.length q_pts), (.slice p112 L_pts.length q113), (Bo (sameX sameV L_pts L_pts)), (Bo (!(sameX sameV L_pts L_pts)))]) rfl rfl (does_assign (u := (Bo false)) (ev rfl)) rfl ?_
    refine wpList_nil (hK118 _ _ ?_)
    refine wp_ret ?_
    dsimp only [Exit.then, Exit.inBlock]
    refine ret_val (v := (Bo false)) (res_T rfl (slot rfl)) X116 ?_
    try simp only [h24, h26, h28, h30, h32, h34, h60, h62, h64, h66, h68, h70, hβ1, hβ2] at c11 c100 c117
    have x119 : true = false := by first | with_reducible rfl | (simp only [sameB_self, sameX_selfV, bne_self_eq_false, h24, h26, h28, h30, h32, h34, h60, h62, h64, h66, h68, h70, hβ1, hβ2, c11, c100, c117]; done) | (simp [sameB_self, sameX_selfV, bne_self_eq_false, h24, h26, h28, h30, h32, h34, h60, h62, h64, h66, h68, h70, hβ1, hβ2, c11, c100, c117]; done) | (revert c11 c100 c117; simp +contextual [sameB_self, sameX_selfV, bne_self_eq_false, h24, h26, h28, h30, h32, h34, h60, h62, h64, h66, h68, h70, hβ1, hβ2]; done) | (rcases c11' with hh | hh <;> simp only [hh, sameB_self, sameX_selfV, bne_self_eq_false, h24, h26, h28, h30, h32, h34, h60, h62, h64, h66, h68, h70, hβ1, hβ2, c11, c100, c117]; done) | (rcases c100' with hh | hh <;> simp only [hh, sameB_self, sameX_selfV, bne_self_eq_false, h24, h26, h28, h30, h32, h34, h60, h62, h64, h66, h68, h70, hβ1, hβ2, c11, c100, c117]; done) | (rcases c117' with hh | hh <;> simp only [hh, sameB_self, sameX_selfV, bne_self_eq_false, h24, h26, h28, h30, h32, h34, h60, h62, h64, h66, h68, h70, hβ1, hβ2, c11, c100, c117]; done) | (rcases c117' with hh | hh <;> simp_all [sameB_self, sameX_selfV, bne_self_eq_false]; done) | (rcases c117' with hh | hh | hh <;> simp_all [sameB_self, sameX_selfV, bne_self_eq_false]; done) | (rcases c117' with hh | hh | hh | hh <;> simp_all [sameB_self, sameX_selfV, bne_self_eq_false]; done) | (simp_all [sameB_self, sameX_selfV, bne_self_eq_false]; done) | rfl
    exact (by first | rfl | rw [x119])
  rw [Bool.not_eq_false'] at c117
  have c117' := c117
  (try simp only [hβ1, hβ2] at c117')
  (try simp only [icmp, Bool.and_eq_true, Bool.or_eq_true, Bool.and_eq_false_iff, Bool.or_eq_false_iff, Bool.not_eq_true', Bool.not_eq_false', decide_eq_true_eq, decide_eq_false_iff_not, beq_iff_eq, bne_iff_ne, beq_eq_false_iff_ne, bne_eq_false_iff_eq] at c117')
  refine wp_skip (hK103 _ _ ?_)
  refine wp_seq_k fun K120 hK120 => ?_
  refine wp_region_lit ?_
  refine q_is (l' := [(.slice p_pts L_pts.length q_pts), Ud, (Bo true), (Iv i6), (Pt b36 0), (Bo (bxOk L_pts)), (.slice p54 L_pts.length q55), (Pt b72 0), (Bo (bxOk L_pts)), (.slice p_pts L_pts.length q_pts), (Iv 1048576), (Iv i6), (Iv i6), (Bo (icmp .lss i6 0)), (.tuple #[(.agg #[(Fl r23), (Fl r25), (Fl r27), (Fl r29), (Fl r31), (Fl r33)]), (Bo (bxOk L_pts))]), (.slice p_pts L_pts.length q_pts), (.slice p19 L_pts.length q20), (.tuple #[(.agg #[(Fl r23), (Fl r25), (Fl r27), (Fl r29), (Fl r31), (Fl r33)]), (Bo (bxOk L_pts))]), (.agg #[(Fl r23), (Fl r25), (Fl r27), (Fl r29), (Fl r31), (Fl r33)]), (Bo (bxOk L_pts)), (.slice p_pts L_pts.length q_pts), (.slice p54 L_pts.length q55), (.tuple #[(.agg #[(Fl r59), (Fl r61), (Fl r63), (Fl r65), (Fl r67), (Fl r69)]), (Bo (bxOk L_pts))]), (.slice p54 L_pts.length q55), (.tuple #[(.agg #[(Fl r59), (Fl r61), (Fl r63), (Fl r65), (Fl r67), (Fl r69)]), (Bo (bxOk L_pts))]), (.agg #[(Fl r59), (Fl r61), (Fl r63), (Fl r65), (Fl r67), (Fl r69)]), (Bo (bxOk L_pts)), v86, v87, v88, v89, v90, v91, v92, v93, (Bo ((!β1) || β2)), (.slice p54 L_pts.length q55), (.slice p_pts L_pts.length q_pts), (.slice p112 L_pts.length q113), (Bo (sameX sameV L_pts L_pts)), (Bo (!(sameX sameV L_pts L_pts)))]) rfl rfl (does_assign (u := (Bo true)) (ev rfl)) rfl ?_
  refine wpList_nil (hK120 _ _ ?_)
  refine wp_ret ?_
  refine ret_val (v := (Bo true)) (res_T rfl (slot rfl)) X116 ?_
  try simp only [h24, h26, h28, h30, h32, h34, h60, h62, h64, h66, h68, h70, hβ1, hβ2] at c11 c100 c117
  exact rfl

end Go.Proofs.Ytbbidfadenmmjaa
