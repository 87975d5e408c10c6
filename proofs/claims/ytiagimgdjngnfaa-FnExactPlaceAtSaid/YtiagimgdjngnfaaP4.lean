/- contracts of functions, each walked once -/
import Derived.Test.YtiagimgdjngnfaaP3
namespace Go.Proofs.Ytiagimgdjngnfaa
open Go Go.RowKit
set_option maxRecDepth 100000
set_option maxHeartbeats 3200000
set_option linter.unusedVariables false
set_option linter.unusedSimpArgs false

/- (*impl.Thing).ok -/
theorem c_impl_Thing_ok (t__b : Nat) (t__o : Nat) (t_ : List Value) (A_t_ : ThingT) (w : World) (hc_t_ : Cells w t__b t__o t_) (hv_t_ : RThingT w A_t_ t_) : Gives Try.prog 34 #[(Pt t__b t__o)] w (fun v w' => v = (Bo (thingOk A_t_))) := by
  obtain ⟨y2, y4, rfl, h3, h5, hb1⟩ := hv_t_
  have hs8 := h3; have hs8l := Sl.len h3; obtain ⟨p6, q7, rfl⟩ := Sl.shape h3
  have hs11 := h5; have hs11l := Sl.len h5; obtain ⟨p9, q10, rfl⟩ := Sl.shape h5
  refine enter [(Pt t__b t__o), Ud, Ud, Ud, Ud, Ud, Ud, Ud, Ud, Ud, Ud, Ud, Ud, Ud, Ud, Ud, Ud, Ud, Ud, Ud, Ud, Ud, Ud, Ud, Ud, Ud, Ud, Ud, Ud, Ud, Ud, Ud, Ud, Ud, Ud, Ud, Ud, Ud, Ud, Ud, Ud, Ud, Ud, Ud, Ud, Ud, Ud, Ud, Ud, Ud, Ud, Ud, Ud, Ud, Ud, Ud, Ud, Ud, Ud, Ud, Ud, Ud, Ud, Ud] Try.func34 rfl Try.ntmps34 rfl ?_
  refine wp_seq_k fun K12 hK12 => ?_
  refine wp_region_lit ?_
  refine q_is rfl rfl (does_assign (u := (Bo false)) (ev rfl)) (by dsimp only [List.set]; try rfl) ?_
  refine wpList_nil (hK12 _ _ ?_)
  refine wp_seq_k fun K13 hK13 => ?_
  refine wp_seq_k fun K14 hK14 => ?_
  refine wp_region_lit ?_
  refine q_is rfl rfl (does_move (u := (Pt t__b t__o)) (ev rfl)) (by dsimp only [List.set]; try rfl) ?_
  refine q_is rfl rfl (does_nilCheck (ev rfl)) (by dsimp only [List.set]; try rfl) ?_
  refine q_is rfl rfl (does_fieldAddr (ev rfl) fa45_2) (by dsimp only [List.set]; try rfl) ?_
  refine q_is rfl rfl (does_load (u := (.slice p9 A_t_.keys.length q10)) (ev rfl) Try.isAgg43 (Cells.at hc_t_ 2 rfl)) (by dsimp only [List.set]; try rfl) ?_
  refine q_is rfl rfl (does_len_slice Try.underlying43 (ev rfl)) (by dsimp only [List.set]; try rfl) ?_
  refine q_is rfl rfl (does_move (u := (Iv 0)) (ev rfl)) (by dsimp only [List.set]; try rfl) ?_
  refine wpList_nil (hK14 _ _ ?_)
  refine wp_block ?_
  refine loop_ghost (σ := Nat) (fun k a w' => ∃ u15 : Nat → Value, a = fr [(Pt t__b t__o), Ud, (u15 2), (u15 3), (u15 4), (Pt t__b t__o), (Pt t__b t__o), (Pt t__b (t__o + 2)), (.slice p9 A_t_.keys.length q10), (Iv (A_t_.keys.length : Int)), (Iv (k : Int)), (u15 11), (u15 12), (u15 13), (u15 14), (u15 15), (u15 16), (u15 17), (u15 18), (u15 19), (u15 20), (u15 21), (u15 22), (u15 23), (u15 24), (u15 25), (u15 26), (u15 27), (u15 28), (u15 29), (u15 30), (u15 31), (u15 32), (u15 33), (u15 34), (u15 35), (u15 36), (u15 37), (u15 38), (u15 39), (u15 40), (u15 41), (u15 42), (u15 43), Ud, Ud, Ud, Ud, Ud, Ud, Ud, Ud, Ud, Ud, Ud, Ud, Ud, Ud, Ud, Ud, Ud, Ud, Ud, Ud] ∧ Ext w w' ∧ (k ≤ A_t_.keys.length ∧ KeyTo A_t_.keys k)) (fun k => A_t_.keys.length - k) 0 ?_ ?_
  · refine ⟨fun t => (([(Pt t__b t__o), Ud, (Bo false), Ud, Ud, (Pt t__b t__o), (Pt t__b t__o), (Pt t__b (t__o + 2)), (.slice p9 A_t_.keys.length q10), (Iv (A_t_.keys.length : Int)), (Iv 0), Ud, Ud, Ud, Ud, Ud, Ud, Ud, Ud, Ud, Ud, Ud, Ud, Ud, Ud, Ud, Ud, Ud, Ud, Ud, Ud, Ud, Ud, Ud, Ud, Ud, Ud, Ud, Ud, Ud, Ud, Ud, Ud, Ud, Ud, Ud, Ud, Ud, Ud, Ud, Ud, Ud, Ud, Ud, Ud, Ud, Ud, Ud, Ud, Ud, Ud, Ud, Ud, Ud] : List Value)[t]?).getD undef, rfl, Ext.refl _, ?_⟩
    exact ⟨Nat.zero_le _, KeyTo.zero⟩
  · rintro k a w16 ⟨u15, rfl, E17, ⟨hk, hkt⟩⟩
    have X19 := Ext.gr (Ext.refl w) E17
    refine wp_seq_k fun K20 hK20 => ?_
    refine wp_region_lit ?_
    refine q_is rfl rfl (does_icmp (p := (k : Int)) (q := (A_t_.keys.length : Int)) (.inr (.inr (.inl rfl))) (ev rfl) (ev rfl)) (by dsimp only [List.set]; try rfl) ?_
    refine wpList_nil (hK20 _ _ ?_)
    refine wp_seq_k fun K21 hK21 => ?_
    refine wp_cond_split (t := icmp .lss (k : Int) (A_t_.keys.length : Int)) (ev rfl) (fun c22 => ?_) (fun c22 => ?_)
    · have c22' := c22
      (try simp only [icmp, Bool.and_eq_true, Bool.or_eq_true, Bool.and_eq_false_iff, Bool.or_eq_false_iff, Bool.not_eq_true', Bool.not_eq_false', decide_eq_true_eq, decide_eq_false_iff_not, beq_iff_eq, bne_iff_ne, beq_eq_false_iff_ne, bne_eq_false_iff_eq] at c22')
      refine wp_skip (hK21 _ _ ?_)
      refine wp_seq_k fun K23 hK23 => ?_
      refine wp_block ?_
      refine wp_seq_k fun K24 hK24 => ?_
      refine wp_region_lit ?_
      refine q_is rfl rfl (does_move (u := (Iv (k : Int))) (ev rfl)) (by dsimp only [List.set]; try rfl) ?_
      obtain ⟨el1, hel1⟩ : ∃ e, A_t_.keys[k]? = some e := ⟨_, List.getElem?_eq_getElem (by omega)⟩
      refine seqd rfl rfl (does_indexSl (R := RKeyT) (i := (k : Int)) (xs := A_t_.keys) (e := el1) Try.underlying43 Try.sizeOf119 (ev rfl) (ev rfl) (Sl.ext hs11 RKeyT.mono X19) (by omega) hel1) ?_; rintro _ w16 ⟨b25, o26, _, rfl, hc28, ⟨r29, r31, r33, rfl, h30, h32, h34⟩, rfl⟩
      show wpList _ _ _ _ (fr [_, _, _, _, _, _, _, _, _, _, _, _, _, _, _, _, _, _, _, _, _, _, _, _, _, _, _, _, _, _, _, _, _, _, _, _, _, _, _, _, _, _, _, _, _, _, _, _, _, _, _, _, _, _, _, _, _, _, _, _, _, _, _, _]) _
      refine q_is rfl rfl (does_loadAgg (cs := [(Iv el1.at_), (Fl r29), (Fl r31), (Fl r33)]) (ev rfl) Try.isAgg119 Try.sizeOf119 hc28 rfl) (by dsimp only [List.set]; try rfl) ?_
      refine seqd rfl rfl (does_alloc z119) ?_; rintro _ w39 ⟨b35, rfl, hb36, hB37, E38⟩
      have n40 : t__b < b35 := Nat.lt_of_lt_of_le (cell_lt (Cells.at (hc_t_.ext X19) 0 rfl)) hb36
      have n41 : b25 < b35 := Nat.lt_of_lt_of_le (cell_lt (Cells.at hc28 0 rfl)) hb36
      have g42 : w.heap.size ≤ b35 := Nat.le_trans (Below.size X19) hb36
      change Blk _ _ [(Iv 0), (Fl 0), (Fl 0), (Fl 0)] at hB37
      have X43 := Ext.gr X19 E38
      show wpList _ _ _ _ (fr [_, _, _, _, _, _, _, _, _, _, _, _, _, _, _, _, _, _, _, _, _, _, _, _, _, _, _, _, _, _, _, _, _, _, _, _, _, _, _, _, _, _, _, _, _, _, _, _, _, _, _, _, _, _, _, _, _, _, _, _, _, _, _, _]) _
      refine q_is rfl rfl (does_assign (u := (Iv (k : Int))) (ev rfl)) (by dsimp only [List.set]; try rfl) ?_
      refine seqn rfl rfl (does_store (n := 4) (cs := [(Iv 0), (Fl 0), (Fl 0), (Fl 0)]) (u := (.agg #[(Iv el1.at_), (Fl r29), (Fl r31), (Fl r33)])) (ev rfl) (ev rfl) Try.sizeOf119 rfl hB37 (Nat.le_of_ble_eq_true rfl) rfl) ?_; rintro _ w46 ⟨rfl, W44, hB45⟩
      change Blk _ _ [(Iv el1.at_), (Fl r29), (Fl r31), (Fl r33)] at hB45
      have X47 := Below.wr X43 W44 g42
      refine wpList_nil (hK24 _ _ ?_)
      refine wp_seq_k fun K48 hK48 => ?_
      obtain ⟨β1, hβ1⟩ : ∃ b : Bool, b = ((!(inI el1.at_ 0 10000)) || (!(finV el1.place))) := ⟨_, rfl⟩
      obtain ⟨el2, hel2⟩ : ∃ e, A_t_.keys[((k : Int) - 1).toNat]? = some e := ⟨_, List.getElem?_eq_getElem (by omega)⟩
      obtain ⟨β2, hβ2⟩ : ∃ b : Bool, b = (icmp .geq el2.at_ el1.at_) := ⟨_, rfl⟩
      obtain ⟨β3, hβ3⟩ : ∃ b : Bool, b = ((icmp .gtr (k : Int) 0) && β2) := ⟨_, rfl⟩
      refine region_draw (
        [Fact.pure [] (fun v => v = (Pt b35 0)),
    Fact.pure [15] (fun v => v = (Iv el1.at_)),
    Fact.pure [16] (fun v => v = (Bo (inI el1.at_ 0 10000))),
    Fact.pure [17] (fun v => v = (Bo (!(inI el1.at_ 0 10000)))),
    Fact.pure [18] (fun v => v = (Bo (!(inI el1.at_ 0 10000)))),
    Fact.pure [19] (fun v => (!(inI el1.at_ 0 10000)) = false → v = (Pt b35 1)),
    Fact.pure [20, 19] (fun v => (!(inI el1.at_ 0 10000)) = false → v = (.agg #[(Fl r29), (Fl r31), (Fl r33)])),
    Fact.pure [21, 19] (fun v => (!(inI el1.at_ 0 10000)) = false → v = (Bo (finV el1.place))),
    Fact.pure [22, 19] (fun v => (!(inI el1.at_ 0 10000)) = false → v = (Bo (!(finV el1.place)))),
    Fact.pure [19, 23] (fun v => v = (Bo β1)),
    Fact.pure [24] (fun v => v = (Bo β1)),
    Fact.pure [25] (fun v => β1 = false → v = (Iv (k : Int))),
    Fact.pure [26, 25] (fun v => β1 = false → v = (Bo (icmp .gtr (k : Int) 0))),
    Fact.pure [27, 25] (fun v => (β1 = false → v = (Bo (icmp .gtr (k : Int) 0))) ∧ (¬ (β1 = false) → v = undef)),
    Fact.pure [28] (fun v => β1 = false → (icmp .gtr (k : Int) 0) = true → v = (Pt t__b t__o)),
    Fact.pure [29, 28] (fun v => β1 = false → (icmp .gtr (k : Int) 0) = true → v = (Pt t__b t__o)),
    Fact.pure [30, 28] (fun v => β1 = false → (icmp .gtr (k : Int) 0) = true → v = (Pt t__b (t__o + 2))),
    Fact.pure [31, 28] (fun v => β1 = false → (icmp .gtr (k : Int) 0) = true → v = (.slice p9 A_t_.keys.length q10)),
    Fact.pure [28] (fun v => β1 = false → (icmp .gtr (k : Int) 0) = true → v = (Iv (k : Int))),
    Fact.pure [33, 28] (fun v => β1 = false → (icmp .gtr (k : Int) 0) = true → v = (Iv ((k : Int) - 1))),
    Fact.mem [32, 34, 28] (fun v w' => β1 = false → (icmp .gtr (k : Int) 0) = true → PtrR RKeyT w' v el2) (by intro v w1 w2 hx h; exact fun hg1 hg2 => (h hg1 hg2).ext RKeyT.mono hx),
    Fact.mem [35, 28] (fun v w' => β1 = false → (icmp .gtr (k : Int) 0) = true → ∃ b o cs, v = .pointer (some ⟨b, o + 0, none⟩) ∧ Cells w' b o cs ∧ RKeyT w' el2 cs) (by intro v w1 w2 hx h hg1 hg2; obtain ⟨b, o, cs, hv, hc, hr⟩ := h hg1 hg2; exact ⟨b, o, cs, hv, hc.ext hx, RKeyT.mono _ _ _ _ hx hr⟩),
    Fact.pure [36, 28] (fun v => β1 = false → (icmp .gtr (k : Int) 0) = true → v = (Iv el2.at_)),
    Fact.pure [28] (fun v => β1 = false → (icmp .gtr (k : Int) 0) = true → v = (Pt b35 0)),
    Fact.pure [38, 28] (fun v => β1 = false → (icmp .gtr (k : Int) 0) = true → v = (Iv el1.at_)),
    Fact.pure [37, 39, 28] (fun v => β1 = false → (icmp .gtr (k : Int) 0) = true → v = (Bo β2)),
    Fact.pure [28, 40, 25] (fun v => β1 = false → v = (Bo β3)),
    Fact.pure [25, 41] (fun v => v = (Bo (β1 || β3)))]) mixed (by kernel_rfl) (by intro _ _ d _ _ h; cases d <;> exact h) ?_
      obtain ⟨w49, hw51⟩ : ∃ w', w' = World.drew w46 := ⟨_, rfl⟩; rw [← hw51]; have E50 : Ext w46 w49 := by rw [hw51]; exact Ext.draw _
      clear hw51
      have X52 := Ext.gr X47 E50
      refine RW_d _ rfl (fun v => by dsimp only [List.set]; try rfl) (fun u hu hF => ?_) (fun v53 => ?_)
      · clear hF
        refine doesG_un rfl ?_
        refine (does_fieldAddr (ev rfl) fa119_0).mono ?_; rintro _ _ ⟨rfl, rfl⟩
        exact ⟨rfl, Ext.refl _⟩
      refine RW_d _ rfl (fun v => by dsimp only [List.set]; try rfl) (fun u hu hF => ?_) (fun v54 => ?_)
      · have h15_ : v53 = (Pt b35 0) := hF.1
        clear hF
        refine doesG_un rfl ?_
        obtain rfl := h15_
        refine (does_load (u := (Iv el1.at_)) (ev rfl) Try.isAgg2 (Cells.at (Blk.cells ((hB45.ext E50).ext hu)) 0 rfl)).mono ?_; rintro _ _ ⟨rfl, rfl⟩
        exact ⟨rfl, Ext.refl _⟩
      refine RW_d _ rfl (fun v => by dsimp only [List.set]; try rfl) (fun u hu hF => ?_) (fun v55 => ?_)
      · have h16_ : v54 = (Iv el1.at_) := hF.1
        clear hF
        refine doesG_un rfl ?_
        obtain rfl := h16_
        refine (does_call (args := #[(Iv el1.at_), (Iv 0), (Iv 10000)]) cal55 (evs rfl) (c_impl_in el1.at_ 0 10000 _)).mono ?_; rintro v u' ⟨hx, hv⟩
        exact ⟨hv, hx⟩
      refine RW_d _ rfl (fun v => by dsimp only [List.set]; try rfl) (fun u hu hF => ?_) (fun v56 => ?_)
      · have h17_ : v55 = (Bo (inI el1.at_ 0 10000)) := hF.1
        clear hF
        refine doesG_un rfl ?_
        obtain rfl := h17_
        refine (does_not (ev rfl)).mono ?_; rintro _ _ ⟨rfl, rfl⟩
        exact ⟨rfl, Ext.refl _⟩
      refine RW_d _ rfl (fun v => by dsimp only [List.set]; try rfl) (fun u hu hF => ?_) (fun v57 => ?_)
      · have h18_ : v56 = (Bo (!(inI el1.at_ 0 10000))) := hF.1
        clear hF
        refine doesG_un rfl ?_
        obtain rfl := h18_
        refine (does_move (u := (Bo (!(inI el1.at_ 0 10000)))) (ev rfl)).mono ?_; rintro _ _ ⟨rfl, rfl⟩
        exact ⟨rfl, Ext.refl _⟩
      refine RW_d _ rfl (fun v => by dsimp only [List.set]; try rfl) (fun u hu hF => ?_) (fun v58 => ?_)
      · have h19_ : v57 = (Bo (!(inI el1.at_ 0 10000))) := hF.1
        clear hF
        obtain rfl := h19_
        refine doesG_g (b := (!(inI el1.at_ 0 10000))) rfl (yld rfl rfl) (fun hg1 => ?_) (fun hc => ⟨fun hg1 => absurd hg1 hc, Ext.refl _⟩)
        refine (does_fieldAddr (ev rfl) fa119_1).mono ?_; rintro _ _ ⟨rfl, rfl⟩
        exact ⟨fun _ => rfl, Ext.refl _⟩
      refine RW_d _ rfl (fun v => by dsimp only [List.set]; try rfl) (fun u hu hF => ?_) (fun v59 => ?_)
      · have h20_ : (!(inI el1.at_ 0 10000)) = false → v58 = (Pt b35 1) := hF.1
        have h19_ : v57 = (Bo (!(inI el1.at_ 0 10000))) := hF.2.1
        clear hF
        obtain rfl := h19_
        refine doesG_g (b := (!(inI el1.at_ 0 10000))) rfl (yld rfl rfl) (fun hg1 => ?_) (fun hc => ⟨fun hg1 => absurd hg1 hc, Ext.refl _⟩)
        obtain rfl := h20_ hg1
        refine (does_loadAgg (cs := [(Fl r29), (Fl r31), (Fl r33)]) (ev rfl) Try.isAgg40 Try.sizeOf40 (Cells.sub (Blk.cells ((hB45.ext E50).ext hu)) 1 3) rfl).mono ?_; rintro _ _ ⟨rfl, rfl⟩
        exact ⟨fun _ => rfl, Ext.refl _⟩
      refine RW_d _ rfl (fun v => by dsimp only [List.set]; try rfl) (fun u hu hF => ?_) (fun v60 => ?_)
      · have h21_ : (!(inI el1.at_ 0 10000)) = false → v59 = (.agg #[(Fl r29), (Fl r31), (Fl r33)]) := hF.1
        have h19_ : v57 = (Bo (!(inI el1.at_ 0 10000))) := hF.2.1
        clear hF
        obtain rfl := h19_
        refine doesG_g (b := (!(inI el1.at_ 0 10000))) rfl (yld rfl rfl) (fun hg1 => ?_) (fun hc => ⟨fun hg1 => absurd hg1 hc, Ext.refl _⟩)
        obtain rfl := h21_ hg1
        refine (does_call (args := #[(.agg #[(Fl r29), (Fl r31), (Fl r33)])]) cal45 (evs rfl) (c_impl_finiteVector [(Fl r29), (Fl r31), (Fl r33)] el1.place _ ⟨r29, r31, r33, rfl, h30, h32, h34⟩)).mono ?_; rintro v u' ⟨hx, hv⟩
        exact ⟨fun _ => hv, hx⟩
      refine RW_d _ rfl (fun v => by dsimp only [List.set]; try rfl) (fun u hu hF => ?_) (fun v61 => ?_)
      · have h22_ : (!(inI el1.at_ 0 10000)) = false → v60 = (Bo (finV el1.place)) := hF.1
        have h19_ : v57 = (Bo (!(inI el1.at_ 0 10000))) := hF.2.1
        clear hF
        obtain rfl := h19_
        refine doesG_g (b := (!(inI el1.at_ 0 10000))) rfl (yld rfl rfl) (fun hg1 => ?_) (fun hc => ⟨fun hg1 => absurd hg1 hc, Ext.refl _⟩)
        obtain rfl := h22_ hg1
        refine (does_not (ev rfl)).mono ?_; rintro _ _ ⟨rfl, rfl⟩
        exact ⟨fun _ => rfl, Ext.refl _⟩
      refine RW_d _ rfl (fun v => by dsimp only [List.set]; try rfl) (fun u hu hF => ?_) (fun v62 => ?_)
      · have h19_ : v57 = (Bo (!(inI el1.at_ 0 10000))) := hF.1
        have h23_ : (!(inI el1.at_ 0 10000)) = false → v61 = (Bo (!(finV el1.place))) := hF.2.1
        clear hF
        refine doesG_un rfl ?_
        skip
        obtain rfl := h19_
        refine (does_pick (b := (!(inI el1.at_ 0 10000))) (u := (Bo true)) (v := v61) (ev rfl) (ev rfl) (ev rfl)).mono ?_; rintro _ _ ⟨rfl, rfl⟩; refine ⟨?_, Ext.refl _⟩; rw [hβ1]; skip
        cases hbb : (!(inI el1.at_ 0 10000))
        all_goals first | (show _ = _; simp only [↓reduceIte, Bool.true_and, Bool.false_and, Bool.true_or, Bool.false_or, Bool.false_eq_true]; done) | (have e_ := h23_ hbb; subst e_; show _ = _; simp only [↓reduceIte, Bool.true_and, Bool.false_and, Bool.true_or, Bool.false_or, Bool.false_eq_true]; done) | rfl | (have e_ := h23_ hbb; subst e_; rfl) | (simp [hbb] at h23_ ⊢; first | done | rfl | (subst h23_; rfl) | simp_all) | (simp [hbb] at h23_ ⊢; done)
      refine RW_d _ rfl (fun v => by dsimp only [List.set]; try rfl) (fun u hu hF => ?_) (fun v63 => ?_)
      · have h24_ : v62 = (Bo β1) := hF.1
        clear hF
        refine doesG_un rfl ?_
        obtain rfl := h24_
        refine (does_move (u := (Bo β1)) (ev rfl)).mono ?_; rintro _ _ ⟨rfl, rfl⟩
        exact ⟨rfl, Ext.refl _⟩
      refine RW_d _ rfl (fun v => by dsimp only [List.set]; try rfl) (fun u hu hF => ?_) (fun v64 => ?_)
      · have h25_ : v63 = (Bo β1) := hF.1
        clear hF
        obtain rfl := h25_
        refine doesG_g (b := β1) rfl (yld rfl rfl) (fun hg1 => ?_) (fun hc => ⟨fun hg1 => absurd hg1 hc, Ext.refl _⟩)
        refine (does_move (u := (Iv (k : Int))) (ev rfl)).mono ?_; rintro _ _ ⟨rfl, rfl⟩
        exact ⟨fun _ => rfl, Ext.refl _⟩
      refine RW_d _ rfl (fun v => by dsimp only [List.set]; try rfl) (fun u hu hF => ?_) (fun v65 => ?_)
      · have h26_ : β1 = false → v64 = (Iv (k : Int)) := hF.1
        have h25_ : v63 = (Bo β1) := hF.2.1
        clear hF
        obtain rfl := h25_
        refine doesG_g (b := β1) rfl (yld rfl rfl) (fun hg1 => ?_) (fun hc => ⟨fun hg1 => absurd hg1 hc, Ext.refl _⟩)
        obtain rfl := h26_ hg1
        refine (does_icmp (p := (k : Int)) (q := 0) (.inr (.inr (.inr (.inr (.inl rfl))))) (ev rfl) (ev rfl)).mono ?_; rintro _ _ ⟨rfl, rfl⟩
        exact ⟨fun _ => rfl, Ext.refl _⟩
      refine RW_d _ rfl (fun v => by dsimp only [List.set]; try rfl) (fun u hu hF => ?_) (fun v66 => ?_)
      · have h27_ : β1 = false → v65 = (Bo (icmp .gtr (k : Int) 0)) := hF.1
        have h25_ : v63 = (Bo β1) := hF.2.1
        clear hF
        obtain rfl := h25_
        refine doesG_g (b := β1) rfl (yld rfl rfl) (fun hg1 => ?_) (fun hc => ⟨⟨fun hg1 => absurd hg1 hc, fun _ => rfl⟩, Ext.refl _⟩)
        obtain rfl := h27_ hg1
        refine (does_move (u := (Bo (icmp .gtr (k : Int) 0))) (ev rfl)).mono ?_; rintro _ _ ⟨rfl, rfl⟩
        exact ⟨⟨fun _ => rfl, fun hn => absurd hg1 hn⟩, Ext.refl _⟩
      refine RW_d _ rfl (fun v => by dsimp only [List.set]; try rfl) (fun u hu hF => ?_) (fun v67 => ?_)
      · have h28_ : (β1 = false → v66 = (Bo (icmp .gtr (k : Int) 0))) ∧ (¬ (β1 = false) → v66 = undef) := hF.1; have h28u := h28_.2; replace h28_ := h28_.1
        clear hF
        refine doesG_gg (b := (icmp .gtr (k : Int) 0)) (c := β1 = false) rfl (fun hc => ?_) (fun hc => ?_) (fun hc hg2 => ?_) (fun hc => ⟨fun hg1 hg2 => absurd ⟨hg1, hg2⟩ hc, Ext.refl _⟩)
        · have hg1 := hc; obtain rfl := h28_ hg1; exact yld rfl rfl
        · obtain rfl := h28u hc; exact yldn rfl rfl
        have hg1 := hc
        obtain rfl := h28_ hg1
        refine (does_move (u := (Pt t__b t__o)) (ev rfl)).mono ?_; rintro _ _ ⟨rfl, rfl⟩
        exact ⟨fun _ _ => rfl, Ext.refl _⟩
      refine RW_d _ rfl (fun v => by dsimp only [List.set]; try rfl) (fun u hu hF => ?_) (fun v68 => ?_)
      · have h29_ : β1 = false → (icmp .gtr (k : Int) 0) = true → v67 = (Pt t__b t__o) := hF.1
        have h28_ : (β1 = false → v66 = (Bo (icmp .gtr (k : Int) 0))) ∧ (¬ (β1 = false) → v66 = undef) := hF.2.1; have h28u := h28_.2; replace h28_ := h28_.1
        clear hF
        refine doesG_gg (b := (icmp .gtr (k : Int) 0)) (c := β1 = false) rfl (fun hc => ?_) (fun hc => ?_) (fun hc hg2 => ?_) (fun hc => ⟨fun hg1 hg2 => absurd ⟨hg1, hg2⟩ hc, Ext.refl _⟩)
        · have hg1 := hc; obtain rfl := h28_ hg1; exact yld rfl rfl
        · obtain rfl := h28u hc; exact yldn rfl rfl
        have hg1 := hc
        obtain rfl := h28_ hg1
        obtain rfl := h29_ hg1 hg2
        refine (does_nilCheck (ev rfl)).mono ?_; rintro _ _ ⟨rfl, rfl⟩
        exact ⟨fun _ _ => rfl, Ext.refl _⟩
      refine RW_d _ rfl (fun v => by dsimp only [List.set]; try rfl) (fun u hu hF => ?_) (fun v69 => ?_)
      · have h30_ : β1 = false → (icmp .gtr (k : Int) 0) = true → v68 = (Pt t__b t__o) := hF.1
        have h28_ : (β1 = false → v66 = (Bo (icmp .gtr (k : Int) 0))) ∧ (¬ (β1 = false) → v66 = undef) := hF.2.1; have h28u := h28_.2; replace h28_ := h28_.1
        clear hF
        refine doesG_gg (b := (icmp .gtr (k : Int) 0)) (c := β1 = false) rfl (fun hc => ?_) (fun hc => ?_) (fun hc hg2 => ?_) (fun hc => ⟨fun hg1 hg2 => absurd ⟨hg1, hg2⟩ hc, Ext.refl _⟩)
        · have hg1 := hc; obtain rfl := h28_ hg1; exact yld rfl rfl
        · obtain rfl := h28u hc; exact yldn rfl rfl
        have hg1 := hc
        obtain rfl := h28_ hg1
        obtain rfl := h30_ hg1 hg2
        refine (does_fieldAddr (ev rfl) fa45_2).mono ?_; rintro _ _ ⟨rfl, rfl⟩
        exact ⟨fun _ _ => rfl, Ext.refl _⟩
      refine RW_d _ rfl (fun v => by dsimp only [List.set]; try rfl) (fun u hu hF => ?_) (fun v70 => ?_)
      · have h31_ : β1 = false → (icmp .gtr (k : Int) 0) = true → v69 = (Pt t__b (t__o + 2)) := hF.1
        have h28_ : (β1 = false → v66 = (Bo (icmp .gtr (k : Int) 0))) ∧ (¬ (β1 = false) → v66 = undef) := hF.2.1; have h28u := h28_.2; replace h28_ := h28_.1
        clear hF
        refine doesG_gg (b := (icmp .gtr (k : Int) 0)) (c := β1 = false) rfl (fun hc => ?_) (fun hc => ?_) (fun hc hg2 => ?_) (fun hc => ⟨fun hg1 hg2 => absurd ⟨hg1, hg2⟩ hc, Ext.refl _⟩)
        · have hg1 := hc; obtain rfl := h28_ hg1; exact yld rfl rfl
        · obtain rfl := h28u hc; exact yldn rfl rfl
        have hg1 := hc
        obtain rfl := h28_ hg1
        obtain rfl := h31_ hg1 hg2
        refine (does_load (u := (.slice p9 A_t_.keys.length q10)) (ev rfl) Try.isAgg43 (Cells.at ((hc_t_.ext (Ext.gr X47 E50)).ext hu) 2 rfl)).mono ?_; rintro _ _ ⟨rfl, rfl⟩
        exact ⟨fun _ _ => rfl, Ext.refl _⟩
      refine RW_d _ rfl (fun v => by dsimp only [List.set]; try rfl) (fun u hu hF => ?_) (fun v71 => ?_)
      · have h28_ : (β1 = false → v66 = (Bo (icmp .gtr (k : Int) 0))) ∧ (¬ (β1 = false) → v66 = undef) := hF.1; have h28u := h28_.2; replace h28_ := h28_.1
        clear hF
        refine doesG_gg (b := (icmp .gtr (k : Int) 0)) (c := β1 = false) rfl (fun hc => ?_) (fun hc => ?_) (fun hc hg2 => ?_) (fun hc => ⟨fun hg1 hg2 => absurd ⟨hg1, hg2⟩ hc, Ext.refl _⟩)
        · have hg1 := hc; obtain rfl := h28_ hg1; exact yld rfl rfl
        · obtain rfl := h28u hc; exact yldn rfl rfl
        have hg1 := hc
        obtain rfl := h28_ hg1
        refine (does_move (u := (Iv (k : Int))) (ev rfl)).mono ?_; rintro _ _ ⟨rfl, rfl⟩
        exact ⟨fun _ _ => rfl, Ext.refl _⟩
      refine RW_d _ rfl (fun v => by dsimp only [List.set]; try rfl) (fun u hu hF => ?_) (fun v72 => ?_)
      · have h33_ : β1 = false → (icmp .gtr (k : Int) 0) = true → v71 = (Iv (k : Int)) := hF.1
        have h28_ : (β1 = false → v66 = (Bo (icmp .gtr (k : Int) 0))) ∧ (¬ (β1 = false) → v66 = undef) := hF.2.1; have h28u := h28_.2; replace h28_ := h28_.1
        clear hF
        refine doesG_gg (b := (icmp .gtr (k : Int) 0)) (c := β1 = false) rfl (fun hc => ?_) (fun hc => ?_) (fun hc hg2 => ?_) (fun hc => ⟨fun hg1 hg2 => absurd ⟨hg1, hg2⟩ hc, Ext.refl _⟩)
        · have hg1 := hc; obtain rfl := h28_ hg1; exact yld rfl rfl
        · obtain rfl := h28u hc; exact yldn rfl rfl
        have hg1 := hc
        obtain rfl := h28_ hg1
        obtain rfl := h33_ hg1 hg2
        refine (does_iarith (p := (k : Int)) (q := 1) (r := (k : Int) - 1) (ev rfl) (ev rfl) (.inr (.inl ⟨rfl, (in_i64 (by omega) (by omega)).symm⟩))).mono ?_; rintro _ _ ⟨rfl, rfl⟩
        exact ⟨fun _ _ => rfl, Ext.refl _⟩
      refine RW_d _ rfl (fun v => by dsimp only [List.set]; try rfl) (fun u hu hF => ?_) (fun v73 => ?_)
      · have h32_ : β1 = false → (icmp .gtr (k : Int) 0) = true → v70 = (.slice p9 A_t_.keys.length q10) := hF.1
        have h34_ : β1 = false → (icmp .gtr (k : Int) 0) = true → v72 = (Iv ((k : Int) - 1)) := hF.2.1
        have h28_ : (β1 = false → v66 = (Bo (icmp .gtr (k : Int) 0))) ∧ (¬ (β1 = false) → v66 = undef) := hF.2.2.1; have h28u := h28_.2; replace h28_ := h28_.1
        clear hF
        refine doesG_gg (b := (icmp .gtr (k : Int) 0)) (c := β1 = false) rfl (fun hc => ?_) (fun hc => ?_) (fun hc hg2 => ?_) (fun hc => ⟨fun hg1 hg2 => absurd ⟨hg1, hg2⟩ hc, Ext.refl _⟩)
        · have hg1 := hc; obtain rfl := h28_ hg1; exact yld rfl rfl
        · obtain rfl := h28u hc; exact yldn rfl rfl
        have hg1 := hc
        obtain rfl := h28_ hg1
        obtain rfl := h32_ hg1 hg2
        obtain rfl := h34_ hg1 hg2
        refine (does_indexSl (R := RKeyT) (i := (k : Int) - 1) (xs := A_t_.keys) (e := el2) Try.underlying43 Try.sizeOf119 (ev rfl) (ev rfl) (Sl.ext (Sl.ext hs11 RKeyT.mono (Ext.gr X47 E50)) RKeyT.mono hu) (by first | omega | (simp only [hβ1, icmp, Bool.or_eq_false_iff, Bool.not_eq_false', Bool.not_eq_true', decide_eq_true_eq, decide_eq_false_iff_not, bne_eq_false_iff_eq] at hg1; omega) | (simp only [hβ1, icmp, Bool.or_eq_false_iff, Bool.not_eq_false', Bool.not_eq_true', decide_eq_true_eq, decide_eq_false_iff_not, bne_eq_false_iff_eq] at hg1 hg2; omega)) hel2).mono ?_; rintro v u' ⟨b, of, cs, hv, hc, hR, hu'⟩; subst hu'
        exact ⟨fun _ _ => ⟨b, of, cs, hv, hc, hR⟩, Ext.refl _⟩
      refine RW_d _ rfl (fun v => by dsimp only [List.set]; try rfl) (fun u hu hF => ?_) (fun v74 => ?_)
      · have h35_ : β1 = false → (icmp .gtr (k : Int) 0) = true → PtrR RKeyT u v73 el2 := hF.1
        have h28_ : (β1 = false → v66 = (Bo (icmp .gtr (k : Int) 0))) ∧ (¬ (β1 = false) → v66 = undef) := hF.2.1; have h28u := h28_.2; replace h28_ := h28_.1
        clear hF
        refine doesG_gg (b := (icmp .gtr (k : Int) 0)) (c := β1 = false) rfl (fun hc => ?_) (fun hc => ?_) (fun hc hg2 => ?_) (fun hc => ⟨fun hg1 hg2 => absurd ⟨hg1, hg2⟩ hc, Ext.refl _⟩)
        · have hg1 := hc; obtain rfl := h28_ hg1; exact yld rfl rfl
        · obtain rfl := h28u hc; exact yldn rfl rfl
        have hg1 := hc
        obtain rfl := h28_ hg1
        obtain ⟨b35_, o35_, cs, rfl, hc, hr⟩ := h35_ hg1 hg2
        refine (does_fieldAddr (ev rfl) fa119_0).mono ?_; rintro _ _ ⟨rfl, rfl⟩; exact ⟨fun _ _ => ⟨_, _, _, rfl, hc, hr⟩, Ext.refl _⟩
      refine RW_d _ rfl (fun v => by dsimp only [List.set]; try rfl) (fun u hu hF => ?_) (fun v75 => ?_)
      · have h36_ : β1 = false → (icmp .gtr (k : Int) 0) = true → ∃ b o cs, v74 = .pointer (some ⟨b, o + 0, none⟩) ∧ Cells u b o cs ∧ RKeyT u el2 cs := hF.1
        have h28_ : (β1 = false → v66 = (Bo (icmp .gtr (k : Int) 0))) ∧ (¬ (β1 = false) → v66 = undef) := hF.2.1; have h28u := h28_.2; replace h28_ := h28_.1
        clear hF
        refine doesG_gg (b := (icmp .gtr (k : Int) 0)) (c := β1 = false) rfl (fun hc => ?_) (fun hc => ?_) (fun hc hg2 => ?_) (fun hc => ⟨fun hg1 hg2 => absurd ⟨hg1, hg2⟩ hc, Ext.refl _⟩)
        · have hg1 := hc; obtain rfl := h28_ hg1; exact yld rfl rfl
        · obtain rfl := h28u hc; exact yldn rfl rfl
        have hg1 := hc
        obtain rfl := h28_ hg1
        obtain ⟨b36_, o36_, _, rfl, hc36_, ⟨r36_1, r36_3, r36_5, rfl, h36_2, h36_4, h36_6⟩⟩ := h36_ hg1 hg2
        refine (does_load (u := (Iv el2.at_)) (ev rfl) Try.isAgg2 (Cells.at hc36_ 0 rfl)).mono ?_; rintro _ _ ⟨rfl, rfl⟩
        exact ⟨fun _ _ => rfl, Ext.refl _⟩
      refine RW_d _ rfl (fun v => by dsimp only [List.set]; try rfl) (fun u hu hF => ?_) (fun v76 => ?_)
      · have h28_ : (β1 = false → v66 = (Bo (icmp .gtr (k : Int) 0))) ∧ (¬ (β1 = false) → v66 = undef) := hF.1; have h28u := h28_.2; replace h28_ := h28_.1
        clear hF
        refine doesG_gg (b := (icmp .gtr (k : Int) 0)) (c := β1 = false) rfl (fun hc => ?_) (fun hc => ?_) (fun hc hg2 => ?_) (fun hc => ⟨fun hg1 hg2 => absurd ⟨hg1, hg2⟩ hc, Ext.refl _⟩)
        · have hg1 := hc; obtain rfl := h28_ hg1; exact yld rfl rfl
        · obtain rfl := h28u hc; exact yldn rfl rfl
        have hg1 := hc
        obtain rfl := h28_ hg1
        refine (does_fieldAddr (ev rfl) fa119_0).mono ?_; rintro _ _ ⟨rfl, rfl⟩
        exact ⟨fun _ _ => rfl, Ext.refl _⟩
      refine RW_d _ rfl (fun v => by dsimp only [List.set]; try rfl) (fun u hu hF => ?_) (fun v77 => ?_)
      · have h38_ : β1 = false → (icmp .gtr (k : Int) 0) = true → v76 = (Pt b35 0) := hF.1
        have h28_ : (β1 = false → v66 = (Bo (icmp .gtr (k : Int) 0))) ∧ (¬ (β1 = false) → v66 = undef) := hF.2.1; have h28u := h28_.2; replace h28_ := h28_.1
        clear hF
        refine doesG_gg (b := (icmp .gtr (k : Int) 0)) (c := β1 = false) rfl (fun hc => ?_) (fun hc => ?_) (fun hc hg2 => ?_) (fun hc => ⟨fun hg1 hg2 => absurd ⟨hg1, hg2⟩ hc, Ext.refl _⟩)
        · have hg1 := hc; obtain rfl := h28_ hg1; exact yld rfl rfl
        · obtain rfl := h28u hc; exact yldn rfl rfl
        have hg1 := hc
        obtain rfl := h28_ hg1
        obtain rfl := h38_ hg1 hg2
        refine (does_load (u := (Iv el1.at_)) (ev rfl) Try.isAgg2 (Cells.at (Blk.cells ((hB45.ext E50).ext hu)) 0 rfl)).mono ?_; rintro _ _ ⟨rfl, rfl⟩
        exact ⟨fun _ _ => rfl, Ext.refl _⟩
      refine RW_d _ rfl (fun v => by dsimp only [List.set]; try rfl) (fun u hu hF => ?_) (fun v78 => ?_)
      · have h37_ : β1 = false → (icmp .gtr (k : Int) 0) = true → v75 = (Iv el2.at_) := hF.1
        have h39_ : β1 = false → (icmp .gtr (k : Int) 0) = true → v77 = (Iv el1.at_) := hF.2.1
        have h28_ : (β1 = false → v66 = (Bo (icmp .gtr (k : Int) 0))) ∧ (¬ (β1 = false) → v66 = undef) := hF.2.2.1; have h28u := h28_.2; replace h28_ := h28_.1
        clear hF
        refine doesG_gg (b := (icmp .gtr (k : Int) 0)) (c := β1 = false) rfl (fun hc => ?_) (fun hc => ?_) (fun hc hg2 => ?_) (fun hc => ⟨fun hg1 hg2 => absurd ⟨hg1, hg2⟩ hc, Ext.refl _⟩)
        · have hg1 := hc; obtain rfl := h28_ hg1; exact yld rfl rfl
        · obtain rfl := h28u hc; exact yldn rfl rfl
        have hg1 := hc
        obtain rfl := h28_ hg1
        obtain rfl := h37_ hg1 hg2
        obtain rfl := h39_ hg1 hg2
        refine (does_icmp (p := el2.at_) (q := el1.at_) (.inr (.inr (.inr (.inr (.inr rfl))))) (ev rfl) (ev rfl)).mono ?_; rintro _ _ ⟨rfl, rfl⟩
        exact ⟨fun _ _ => (by first | rfl | (show _ = _; simp only [hβ2]; done) | (show _ = _; simp only [hβ2]; rfl)), Ext.refl _⟩
      refine RW_d _ rfl (fun v => by dsimp only [List.set]; try rfl) (fun u hu hF => ?_) (fun v79 => ?_)
      · have h28_ : (β1 = false → v66 = (Bo (icmp .gtr (k : Int) 0))) ∧ (¬ (β1 = false) → v66 = undef) := hF.1; have h28u := h28_.2; replace h28_ := h28_.1
        have h40_ : β1 = false → (icmp .gtr (k : Int) 0) = true → v78 = (Bo β2) := hF.2.1
        have h25_ : v63 = (Bo β1) := hF.2.2.1
        clear hF
        obtain rfl := h25_
        refine doesG_g (b := β1) rfl (yld rfl rfl) (fun hg1 => ?_) (fun hc => ⟨fun hg1 => absurd hg1 hc, Ext.refl _⟩)
        skip
        obtain rfl := h28_ hg1
        replace h40_ := h40_ hg1
        refine (does_pick (b := (icmp .gtr (k : Int) 0)) (u := v78) (v := (Bo false)) (ev rfl) (ev rfl) (ev rfl)).mono ?_; rintro _ _ ⟨rfl, rfl⟩; refine ⟨fun _ => ?_, Ext.refl _⟩; rw [hβ3]; skip
        cases hbb : (icmp .gtr (k : Int) 0)
        all_goals first | (show _ = _; simp only [↓reduceIte, Bool.true_and, Bool.false_and, Bool.true_or, Bool.false_or, Bool.false_eq_true]; done) | (have e_ := h40_ hbb; subst e_; show _ = _; simp only [↓reduceIte, Bool.true_and, Bool.false_and, Bool.true_or, Bool.false_or, Bool.false_eq_true]; done) | rfl | (have e_ := h40_ hbb; subst e_; rfl) | (simp [hbb] at h40_ ⊢; first | done | rfl | (subst h40_; rfl) | simp_all) | (simp [hbb] at h40_ ⊢; done)
      refine RW_d _ rfl (fun v => by dsimp only [List.set]; try rfl) (fun u hu hF => ?_) (fun v80 => ?_)
      · have h25_ : v63 = (Bo β1) := hF.1
        have h41_ : β1 = false → v79 = (Bo β3) := hF.2.1
        clear hF
        refine doesG_un rfl ?_
        skip
        obtain rfl := h25_
        refine (does_pick (b := β1) (u := (Bo true)) (v := v79) (ev rfl) (ev rfl) (ev rfl)).mono ?_; rintro _ _ ⟨rfl, rfl⟩; refine ⟨?_, Ext.refl _⟩; skip
        cases hbb : β1
        all_goals first | (show _ = _; simp only [↓reduceIte, Bool.true_and, Bool.false_and, Bool.true_or, Bool.false_or, Bool.false_eq_true]; done) | (have e_ := h41_ hbb; subst e_; show _ = _; simp only [↓reduceIte, Bool.true_and, Bool.false_and, Bool.true_or, Bool.false_or, Bool.false_eq_true]; done) | rfl | (have e_ := h41_ hbb; subst e_; rfl) | (simp [hbb] at h41_ ⊢; first | done | rfl | (subst h41_; rfl) | simp_all) | (simp [hbb] at h41_ ⊢; done)
      refine RW_fin ?_; intro w81 E82 hP83
      obtain ⟨⟨⟨⟨⟨⟨⟨⟨⟨⟨⟨⟨⟨⟨⟨⟨⟨⟨⟨⟨⟨⟨⟨⟨⟨⟨⟨⟨-, -⟩, -⟩, -⟩, -⟩, -⟩, -⟩, -⟩, -⟩, -⟩, -⟩, -⟩, -⟩, -⟩, -⟩, -⟩, -⟩, -⟩, -⟩, -⟩, -⟩, -⟩, -⟩, -⟩, -⟩, -⟩, -⟩, -⟩, q84⟩ := hP83
      have X85 := Ext.gr X52 E82
      have q84 : v80 = (Bo (β1 || β3)) := q84
      obtain rfl := q84
      show wpList _ _ _ _ (fr [_, _, _, _, _, _, _, _, _, _, _, _, _, _, _, _, _, _, _, _, _, _, _, _, _, _, _, _, _, _, _, _, _, _, _, _, _, _, _, _, _, _, _, _, _, _, _, _, _, _, _, _, _, _, _, _, _, _, _, _, _, _, _, _]) _
      refine wpList_nil (hK48 _ _ ?_)
      refine wp_cond_split (t := β1 || β3) (ev rfl) (fun c86 => ?_) (fun c86 => ?_)
      · have c86' := c86
        (try simp only [hβ1, hβ2, hβ3] at c86')
        (try simp only [icmp, Bool.and_eq_true, Bool.or_eq_true, Bool.and_eq_false_iff, Bool.or_eq_false_iff, Bool.not_eq_true', Bool.not_eq_false', decide_eq_true_eq, decide_eq_false_iff_not, beq_iff_eq, bne_iff_ne, beq_eq_false_iff_ne, bne_eq_false_iff_eq] at c86')
        have hkb : keyOk A_t_.keys k = false := key_impF hel1 hel2 c86'
        refine wp_seq_k fun K87 hK87 => ?_
        refine wp_region_lit ?_
        refine q_is rfl rfl (does_assign (u := (Bo false)) (ev rfl)) (by dsimp only [List.set]; try rfl) ?_
        refine wpList_nil (hK87 _ _ ?_)
        refine wp_ret ?_
        dsimp only [Exit.then, Exit.inBlock]
        refine ret_val (v := (Bo false)) (res_T rfl (slot rfl)) X85 ?_
        try simp only [hel1, h30, h32, h34, hβ1, hβ2, hβ3, hel2] at c22 c86
        have x88 : (thingOk A_t_) = false := by first | exact thingOk_bad (keysOk_bad (by omega) hkb) | (unfold thingOk; rw [keysOk_ok hkt (by omega)]; simp only [hel1, h30, h32, h34, hβ1, hβ2, hβ3, hel2, c22, c86]; done)
        exact (by first | with_reducible rfl | rw [x88] | rfl)
      have c86' := c86
      (try simp only [hβ1, hβ2, hβ3] at c86')
      (try simp only [icmp, Bool.and_eq_true, Bool.or_eq_true, Bool.and_eq_false_iff, Bool.or_eq_false_iff, Bool.not_eq_true', Bool.not_eq_false', decide_eq_true_eq, decide_eq_false_iff_not, beq_iff_eq, bne_iff_ne, beq_eq_false_iff_ne, bne_eq_false_iff_eq] at c86')
      have hko : keyOk A_t_.keys k = true := key_impT hel1 hel2 c86'
      refine wp_skip (hK23 _ _ ?_)
      refine wp_region_lit ?_
      refine q_is rfl rfl (does_iarith (p := (k : Int)) (q := 1) (r := (k : Int) + 1) (ev rfl) (ev rfl) (.inl ⟨rfl, (in_i64 (by omega) (by omega)).symm⟩)) (by dsimp only [List.set]; try rfl) ?_
      refine q_is rfl rfl (does_move (u := (Iv ((k : Int) + 1))) (ev rfl)) (by dsimp only [List.set]; try rfl) ?_
      refine wpList_nil ?_
      refine ⟨k + 1, ⟨fun t => (([(Pt t__b t__o), Ud, (u15 2), (Iv (k : Int)), (Pt b35 0), (Pt t__b t__o), (Pt t__b t__o), (Pt t__b (t__o + 2)), (.slice p9 A_t_.keys.length q10), (Iv (A_t_.keys.length : Int)), (Iv ((k : Int) + 1)), (Bo (icmp .lss (k : Int) (A_t_.keys.length : Int))), (Iv (k : Int)), (Pt b25 o26), (.agg #[(Iv el1.at_), (Fl r29), (Fl r31), (Fl r33)]), v53, v54, v55, v56, v57, v58, v59, v60, v61, v62, v63, v64, v65, v66, v67, v68, v69, v70, v71, v72, v73, v74, v75, v76, v77, v78, v79, (Bo (β1 || β3)), (Iv ((k : Int) + 1)), Ud, Ud, Ud, Ud, Ud, Ud, Ud, Ud, Ud, Ud, Ud, Ud, Ud, Ud, Ud, Ud, Ud, Ud, Ud, Ud] : List Value)[t]?).getD undef, ?_, (Ext.gr (Ext.gr (Below.kl (Ext.gr E17 E38) (KpL.of_wr W44) (allS (Nat.le_trans E17.size hb36) all0) (Nat.le_refl _)) E50) E82), ?_⟩, ?_⟩
      · first | rfl | (simp only [Nat.cast_add, Nat.cast_one, Int.natCast_add, Int.natCast_one]; rfl)
      · exact ⟨by omega, KeyTo.step hkt hko⟩
      · omega
    have c22' := c22
    (try simp only [icmp, Bool.and_eq_true, Bool.or_eq_true, Bool.and_eq_false_iff, Bool.or_eq_false_iff, Bool.not_eq_true', Bool.not_eq_false', decide_eq_true_eq, decide_eq_false_iff_not, beq_iff_eq, bne_iff_ne, beq_eq_false_iff_ne, bne_eq_false_iff_eq] at c22')
    refine wp_exit ?_
    refine hK13 _ _ ?_
    refine wp_seq_k fun K89 hK89 => ?_
    obtain ⟨β4, hβ4⟩ : ∃ b : Bool, b = ((isNm A_t_.name) && (isShape A_t_.shape)) := ⟨_, rfl⟩
    obtain ⟨β5, hβ5⟩ : ∃ b : Bool, b = (inI (A_t_.keys.length : Int) 1 8) := ⟨_, rfl⟩
    refine region_text (
      [Fact.pure [] (fun v => v = (Pt t__b t__o)),
    Fact.pure [44] (fun v => v = (Pt t__b t__o)),
    Fact.pure [45] (fun v => v = (Pt t__b t__o)),
    Fact.pure [46] (fun v => v = (.string A_t_.name)),
    Fact.pure [47] (fun v => v = (Bo (isNm A_t_.name))),
    Fact.pure [48] (fun v => v = (Bo (isNm A_t_.name))),
    Fact.pure [49] (fun v => (isNm A_t_.name) = true → v = (Pt t__b t__o)),
    Fact.pure [50, 49] (fun v => (isNm A_t_.name) = true → v = (Pt t__b t__o)),
    Fact.pure [51, 49] (fun v => (isNm A_t_.name) = true → v = (Pt t__b (t__o + 1))),
    Fact.pure [52, 49] (fun v => (isNm A_t_.name) = true → v = (.agg #[(.slice p6 A_t_.shape.nodes.length q7)])),
    Fact.pure [53, 49] (fun v => (isNm A_t_.name) = true → v = (Bo (isShape A_t_.shape))),
    Fact.pure [49, 54] (fun v => v = (Bo β4)),
    Fact.pure [55] (fun v => v = (Bo β4)),
    Fact.pure [56] (fun v => β4 = true → v = (Pt t__b t__o)),
    Fact.pure [57, 56] (fun v => β4 = true → v = (Pt t__b t__o)),
    Fact.pure [58, 56] (fun v => β4 = true → v = (Pt t__b (t__o + 2))),
    Fact.pure [59, 56] (fun v => β4 = true → v = (.slice p9 A_t_.keys.length q10)),
    Fact.pure [60, 56] (fun v => β4 = true → v = (Iv (A_t_.keys.length : Int))),
    Fact.pure [61, 56] (fun v => β4 = true → v = (Bo β5)),
    Fact.pure [56, 62] (fun v => v = (Bo (β4 && β5)))]) (by simp [Fact.pure, Fact.mem]) ?_
    refine RW_d _ rfl (fun v => by dsimp only [List.set]; try rfl) (fun u hu hF => ?_) (fun v90 => ?_)
    · clear hF
      refine doesG_un rfl ?_
      refine (does_move (u := (Pt t__b t__o)) (ev rfl)).mono ?_; rintro _ _ ⟨rfl, rfl⟩
      exact ⟨rfl, Ext.refl _⟩
    refine RW_d _ rfl (fun v => by dsimp only [List.set]; try rfl) (fun u hu hF => ?_) (fun v91 => ?_)
    · have h44_ : v90 = (Pt t__b t__o) := hF.1
      clear hF
      refine doesG_un rfl ?_
      obtain rfl := h44_
      refine (does_nilCheck (ev rfl)).mono ?_; rintro _ _ ⟨rfl, rfl⟩
      exact ⟨rfl, Ext.refl _⟩
    refine RW_d _ rfl (fun v => by dsimp only [List.set]; try rfl) (fun u hu hF => ?_) (fun v92 => ?_)
    · have h45_ : v91 = (Pt t__b t__o) := hF.1
      clear hF
      refine doesG_un rfl ?_
      obtain rfl := h45_
      refine (does_fieldAddr (ev rfl) fa45_0).mono ?_; rintro _ _ ⟨rfl, rfl⟩
      exact ⟨rfl, Ext.refl _⟩
    refine RW_d _ rfl (fun v => by dsimp only [List.set]; try rfl) (fun u hu hF => ?_) (fun v93 => ?_)
    · have h46_ : v92 = (Pt t__b t__o) := hF.1
      clear hF
      refine doesG_un rfl ?_
      obtain rfl := h46_
      refine (does_load (u := (.string A_t_.name)) (ev rfl) Try.isAgg9 (Cells.at ((hc_t_.ext X19).ext hu) 0 rfl)).mono ?_; rintro _ _ ⟨rfl, rfl⟩
      exact ⟨rfl, Ext.refl _⟩
    refine RW_d _ rfl (fun v => by dsimp only [List.set]; try rfl) (fun u hu hF => ?_) (fun v94 => ?_)
    · have h47_ : v93 = (.string A_t_.name) := hF.1
      clear hF
      refine doesG_un rfl ?_
      obtain rfl := h47_
      refine (does_call (args := #[(.string A_t_.name)]) cal69 (evs rfl) (c_impl_IsName A_t_.name _ (by assumption))).mono ?_; rintro v u' ⟨hx, hv⟩
      exact ⟨hv, hx⟩
    refine RW_d _ rfl (fun v => by dsimp only [List.set]; try rfl) (fun u hu hF => ?_) (fun v95 => ?_)
    · have h48_ : v94 = (Bo (isNm A_t_.name)) := hF.1
      clear hF
      refine doesG_un rfl ?_
      obtain rfl := h48_
      refine (does_move (u := (Bo (isNm A_t_.name))) (ev rfl)).mono ?_; rintro _ _ ⟨rfl, rfl⟩
      exact ⟨rfl, Ext.refl _⟩
    refine RW_d _ rfl (fun v => by dsimp only [List.set]; try rfl) (fun u hu hF => ?_) (fun v96 => ?_)
    · have h49_ : v95 = (Bo (isNm A_t_.name)) := hF.1
      clear hF
      obtain rfl := h49_
      refine doesG_g (b := (isNm A_t_.name)) rfl (yld rfl rfl) (fun hg1 => ?_) (fun hc => ⟨fun hg1 => absurd hg1 hc, Ext.refl _⟩)
      refine (does_move (u := (Pt t__b t__o)) (ev rfl)).mono ?_; rintro _ _ ⟨rfl, rfl⟩
      exact ⟨fun _ => rfl, Ext.refl _⟩
    refine RW_d _ rfl (fun v => by dsimp only [List.set]; try rfl) (fun u hu hF => ?_) (fun v97 => ?_)
    · have h50_ : (isNm A_t_.name) = true → v96 = (Pt t__b t__o) := hF.1
      have h49_ : v95 = (Bo (isNm A_t_.name)) := hF.2.1
      clear hF
      obtain rfl := h49_
      refine doesG_g (b := (isNm A_t_.name)) rfl (yld rfl rfl) (fun hg1 => ?_) (fun hc => ⟨fun hg1 => absurd hg1 hc, Ext.refl _⟩)
      obtain rfl := h50_ hg1
      refine (does_nilCheck (ev rfl)).mono ?_; rintro _ _ ⟨rfl, rfl⟩
      exact ⟨fun _ => rfl, Ext.refl _⟩
    refine RW_d _ rfl (fun v => by dsimp only [List.set]; try rfl) (fun u hu hF => ?_) (fun v98 => ?_)
    · have h51_ : (isNm A_t_.name) = true → v97 = (Pt t__b t__o) := hF.1
      have h49_ : v95 = (Bo (isNm A_t_.name)) := hF.2.1
      clear hF
      obtain rfl := h49_
      refine doesG_g (b := (isNm A_t_.name)) rfl (yld rfl rfl) (fun hg1 => ?_) (fun hc => ⟨fun hg1 => absurd hg1 hc, Ext.refl _⟩)
      obtain rfl := h51_ hg1
      refine (does_fieldAddr (ev rfl) fa45_1).mono ?_; rintro _ _ ⟨rfl, rfl⟩
      exact ⟨fun _ => rfl, Ext.refl _⟩
    refine RW_d _ rfl (fun v => by dsimp only [List.set]; try rfl) (fun u hu hF => ?_) (fun v99 => ?_)
    · have h52_ : (isNm A_t_.name) = true → v98 = (Pt t__b (t__o + 1)) := hF.1
      have h49_ : v95 = (Bo (isNm A_t_.name)) := hF.2.1
      clear hF
      obtain rfl := h49_
      refine doesG_g (b := (isNm A_t_.name)) rfl (yld rfl rfl) (fun hg1 => ?_) (fun hc => ⟨fun hg1 => absurd hg1 hc, Ext.refl _⟩)
      obtain rfl := h52_ hg1
      refine (does_loadAgg (cs := [(.slice p6 A_t_.shape.nodes.length q7)]) (ev rfl) Try.isAgg30 Try.sizeOf30 (Cells.sub ((hc_t_.ext X19).ext hu) 1 1) rfl).mono ?_; rintro _ _ ⟨rfl, rfl⟩
      exact ⟨fun _ => rfl, Ext.refl _⟩
    refine RW_d _ rfl (fun v => by dsimp only [List.set]; try rfl) (fun u hu hF => ?_) (fun v100 => ?_)
    · have h53_ : (isNm A_t_.name) = true → v99 = (.agg #[(.slice p6 A_t_.shape.nodes.length q7)]) := hF.1
      have h49_ : v95 = (Bo (isNm A_t_.name)) := hF.2.1
      clear hF
      obtain rfl := h49_
      refine doesG_g (b := (isNm A_t_.name)) rfl (yld rfl rfl) (fun hg1 => ?_) (fun hc => ⟨fun hg1 => absurd hg1 hc, Ext.refl _⟩)
      obtain rfl := h53_ hg1
      refine (does_call (args := #[(.agg #[(.slice p6 A_t_.shape.nodes.length q7)])]) cal26 (evs rfl) (c_impl_ValidShape [(.slice p6 A_t_.shape.nodes.length q7)] A_t_.shape _ ⟨(.slice p6 A_t_.shape.nodes.length q7), rfl, (Sl.ext (Sl.ext hs8 RNodeT.mono X19) RNodeT.mono hu)⟩)).mono ?_; rintro v u' ⟨hx, hv⟩
      exact ⟨fun _ => hv, hx⟩
    refine RW_d _ rfl (fun v => by dsimp only [List.set]; try rfl) (fun u hu hF => ?_) (fun v101 => ?_)
    · have h49_ : v95 = (Bo (isNm A_t_.name)) := hF.1
      have h54_ : (isNm A_t_.name) = true → v100 = (Bo (isShape A_t_.shape)) := hF.2.1
      clear hF
      refine doesG_un rfl ?_
      skip
      obtain rfl := h49_
      refine (does_pick (b := (isNm A_t_.name)) (u := v100) (v := (Bo false)) (ev rfl) (ev rfl) (ev rfl)).mono ?_; rintro _ _ ⟨rfl, rfl⟩; refine ⟨?_, Ext.refl _⟩; rw [hβ4]; skip
      cases hbb : (isNm A_t_.name)
      all_goals first | (show _ = _; simp only [↓reduceIte, Bool.true_and, Bool.false_and, Bool.true_or, Bool.false_or, Bool.false_eq_true]; done) | (have e_ := h54_ hbb; subst e_; show _ = _; simp only [↓reduceIte, Bool.true_and, Bool.false_and, Bool.true_or, Bool.false_or, Bool.false_eq_true]; done) | rfl | (have e_ := h54_ hbb; subst e_; rfl) | (simp [hbb] at h54_ ⊢; first | done | rfl | (subst h54_; rfl) | simp_all) | (simp [hbb] at h54_ ⊢; done)
    refine RW_d _ rfl (fun v => by dsimp only [List.set]; try rfl) (fun u hu hF => ?_) (fun v102 => ?_)
    · have h55_ : v101 = (Bo β4) := hF.1
      clear hF
      refine doesG_un rfl ?_
      obtain rfl := h55_
      refine (does_move (u := (Bo β4)) (ev rfl)).mono ?_; rintro _ _ ⟨rfl, rfl⟩
      exact ⟨rfl, Ext.refl _⟩
    refine RW_d _ rfl (fun v => by dsimp only [List.set]; try rfl) (fun u hu hF => ?_) (fun v103 => ?_)
    · have h56_ : v102 = (Bo β4) := hF.1
      clear hF
      obtain rfl := h56_
      refine doesG_g (b := β4) rfl (yld rfl rfl) (fun hg1 => ?_) (fun hc => ⟨fun hg1 => absurd hg1 hc, Ext.refl _⟩)
      refine (does_move (u := (Pt t__b t__o)) (ev rfl)).mono ?_; rintro _ _ ⟨rfl, rfl⟩
      exact ⟨fun _ => rfl, Ext.refl _⟩
    refine RW_d _ rfl (fun v => by dsimp only [List.set]; try rfl) (fun u hu hF => ?_) (fun v104 => ?_)
    · have h57_ : β4 = true → v103 = (Pt t__b t__o) := hF.1
      have h56_ : v102 = (Bo β4) := hF.2.1
      clear hF
      obtain rfl := h56_
      refine doesG_g (b := β4) rfl (yld rfl rfl) (fun hg1 => ?_) (fun hc => ⟨fun hg1 => absurd hg1 hc, Ext.refl _⟩)
      obtain rfl := h57_ hg1
      refine (does_nilCheck (ev rfl)).mono ?_; rintro _ _ ⟨rfl, rfl⟩
      exact ⟨fun _ => rfl, Ext.refl _⟩
    refine RW_d _ rfl (fun v => by dsimp only [List.set]; try rfl) (fun u hu hF => ?_) (fun v105 => ?_)
    · have h58_ : β4 = true → v104 = (Pt t__b t__o) := hF.1
      have h56_ : v102 = (Bo β4) := hF.2.1
      clear hF
      obtain rfl := h56_
      refine doesG_g (b := β4) rfl (yld rfl rfl) (fun hg1 => ?_) (fun hc => ⟨fun hg1 => absurd hg1 hc, Ext.refl _⟩)
      obtain rfl := h58_ hg1
      refine (does_fieldAddr (ev rfl) fa45_2).mono ?_; rintro _ _ ⟨rfl, rfl⟩
      exact ⟨fun _ => rfl, Ext.refl _⟩
    refine RW_d _ rfl (fun v => by dsimp only [List.set]; try rfl) (fun u hu hF => ?_) (fun v106 => ?_)
    · have h59_ : β4 = true → v105 = (Pt t__b (t__o + 2)) := hF.1
      have h56_ : v102 = (Bo β4) := hF.2.1
      clear hF
      obtain rfl := h56_
      refine doesG_g (b := β4) rfl (yld rfl rfl) (fun hg1 => ?_) (fun hc => ⟨fun hg1 => absurd hg1 hc, Ext.refl _⟩)
      obtain rfl := h59_ hg1
      refine (does_load (u := (.slice p9 A_t_.keys.length q10)) (ev rfl) Try.isAgg43 (Cells.at ((hc_t_.ext X19).ext hu) 2 rfl)).mono ?_; rintro _ _ ⟨rfl, rfl⟩
      exact ⟨fun _ => rfl, Ext.refl _⟩
    refine RW_d _ rfl (fun v => by dsimp only [List.set]; try rfl) (fun u hu hF => ?_) (fun v107 => ?_)
    · have h60_ : β4 = true → v106 = (.slice p9 A_t_.keys.length q10) := hF.1
      have h56_ : v102 = (Bo β4) := hF.2.1
      clear hF
      obtain rfl := h56_
      refine doesG_g (b := β4) rfl (yld rfl rfl) (fun hg1 => ?_) (fun hc => ⟨fun hg1 => absurd hg1 hc, Ext.refl _⟩)
      obtain rfl := h60_ hg1
      refine (does_len_slice Try.underlying43 (ev rfl)).mono ?_; rintro _ _ ⟨rfl, rfl⟩
      exact ⟨fun _ => rfl, Ext.refl _⟩
    refine RW_d _ rfl (fun v => by dsimp only [List.set]; try rfl) (fun u hu hF => ?_) (fun v108 => ?_)
    · have h61_ : β4 = true → v107 = (Iv (A_t_.keys.length : Int)) := hF.1
      have h56_ : v102 = (Bo β4) := hF.2.1
      clear hF
      obtain rfl := h56_
      refine doesG_g (b := β4) rfl (yld rfl rfl) (fun hg1 => ?_) (fun hc => ⟨fun hg1 => absurd hg1 hc, Ext.refl _⟩)
      obtain rfl := h61_ hg1
      refine (does_call (args := #[(Iv (A_t_.keys.length : Int)), (Iv 1), (Iv 8)]) cal55 (evs rfl) (c_impl_in (A_t_.keys.length : Int) 1 8 _)).mono ?_; rintro v u' ⟨hx, hv⟩
      exact ⟨fun _ => hv.trans (by simp only [hβ5]), hx⟩
    refine RW_d _ rfl (fun v => by dsimp only [List.set]; try rfl) (fun u hu hF => ?_) (fun v109 => ?_)
    · have h56_ : v102 = (Bo β4) := hF.1
      have h62_ : β4 = true → v108 = (Bo β5) := hF.2.1
      clear hF
      refine doesG_un rfl ?_
      skip
      obtain rfl := h56_
      refine (does_pick (b := β4) (u := v108) (v := (Bo false)) (ev rfl) (ev rfl) (ev rfl)).mono ?_; rintro _ _ ⟨rfl, rfl⟩; refine ⟨?_, Ext.refl _⟩; skip
      cases hbb : β4
      all_goals first | (show _ = _; simp only [↓reduceIte, Bool.true_and, Bool.false_and, Bool.true_or, Bool.false_or, Bool.false_eq_true]; done) | (have e_ := h62_ hbb; subst e_; show _ = _; simp only [↓reduceIte, Bool.true_and, Bool.false_and, Bool.true_or, Bool.false_or, Bool.false_eq_true]; done) | rfl | (have e_ := h62_ hbb; subst e_; rfl) | (simp [hbb] at h62_ ⊢; first | done | rfl | (subst h62_; rfl) | simp_all) | (simp [hbb] at h62_ ⊢; done)
    refine RW_fin ?_; intro w110 E111 hP112
    obtain ⟨⟨⟨⟨⟨⟨⟨⟨⟨⟨⟨⟨⟨⟨⟨⟨⟨⟨⟨⟨-, -⟩, -⟩, -⟩, -⟩, -⟩, -⟩, -⟩, -⟩, -⟩, -⟩, -⟩, -⟩, -⟩, -⟩, -⟩, -⟩, -⟩, -⟩, -⟩, q113⟩ := hP112
    have X114 := Ext.gr X19 E111
    have q113 : v109 = (Bo (β4 && β5)) := q113
    obtain rfl := q113
    show wpList _ _ _ _ (fr [_, _, _, _, _, _, _, _, _, _, _, _, _, _, _, _, _, _, _, _, _, _, _, _, _, _, _, _, _, _, _, _, _, _, _, _, _, _, _, _, _, _, _, _, _, _, _, _, _, _, _, _, _, _, _, _, _, _, _, _, _, _, _, _]) _
    refine q_is rfl rfl (does_assign (u := (Bo (β4 && β5))) (ev rfl)) (by dsimp only [List.set]; try rfl) ?_
    refine wpList_nil (hK89 _ _ ?_)
    refine wp_ret ?_
    refine ret_val (v := (Bo (β4 && β5))) (res_T rfl (slot rfl)) X114 ?_
    try simp only [hβ4, hβ5] at c22
    have x115 : (thingOk A_t_) = (β4 && β5) := by first | exact thingOk_bad (keysOk_bad (by omega) hkb) | (unfold thingOk; rw [keysOk_ok hkt (by omega)]; simp only [hβ4, hβ5, c22]; done)
    exact (by first | with_reducible rfl | rw [x115] | rfl)

/- impl.timeOk -/
theorem c_impl_timeOk (n_ : Int) (w : World) : Gives Try.prog 35 #[(Iv n_)] w (fun v w' => v = (Bo (inI n_ 0 10000))) := by
  refine enter [(Iv n_), Ud, Ud, Ud, Ud] Try.func35 rfl Try.ntmps35 rfl ?_
  refine wp_seq_k fun K1 hK1 => ?_
  refine wp_region_lit ?_
  refine q_is (l' := [(Iv n_), Ud, (Bo false), Ud, Ud]) rfl rfl (does_assign (u := (Bo false)) (ev rfl)) rfl ?_
  refine wpList_nil (hK1 _ _ ?_)
  refine wp_seq_k fun K2 hK2 => ?_
  refine wp_region_lit ?_
  refine q_is (l' := [(Iv n_), Ud, (Bo false), (Iv n_), Ud]) rfl rfl (does_move (u := (Iv n_)) (ev rfl)) rfl ?_
  refine seqd rfl rfl (does_call (args := #[(Iv n_), (Iv 0), (Iv 10000)]) cal55 (evs rfl) (c_impl_in n_ 0 10000 _)) ?_; rintro _ w4 ⟨E3, rfl⟩
  have X5 := Ext.gr (Ext.refl w) E3
  show wpList _ _ _ _ (fr [(Iv n_), Ud, (Bo false), (Iv n_), (Bo (inI n_ 0 10000))]) _
  refine q_is (l' := [(Iv n_), Ud, (Bo (inI n_ 0 10000)), (Iv n_), (Bo (inI n_ 0 10000))]) rfl rfl (does_assign (u := (Bo (inI n_ 0 10000))) (ev rfl)) rfl ?_
  refine wpList_nil (hK2 _ _ ?_)
  refine wp_ret ?_
  refine ret_val (v := (Bo (inI n_ 0 10000))) (res_T rfl (slot rfl)) X5 ?_
  exact rfl

/- impl.LessVectors -/
theorem c_impl_LessVectors (a : List Value) (A_a : V3) (b : List Value) (A_b : V3) (w : World) (hv_a : RV3 w A_a a) (hv_b : RV3 w A_b b) : Gives Try.prog 98 #[(.agg a.toArray), (.agg b.toArray)] w (fun v w' => ∃ cs_1 : List Value, v = (.agg cs_1.toArray) ∧ RV3 w (vsub A_a A_b) cs_1) := by
  obtain ⟨r1, r3, r5, rfl, h2, h4, h6⟩ := hv_a
  obtain ⟨r7, r9, r11, rfl, h8, h10, h12⟩ := hv_b
  refine enter [(.agg #[(Fl r1), (Fl r3), (Fl r5)]), (.agg #[(Fl r7), (Fl r9), (Fl r11)]), Ud, Ud, Ud, Ud, Ud, Ud, Ud, Ud, Ud, Ud, Ud, Ud, Ud, Ud, Ud, Ud, Ud, Ud, Ud] Try.func98 rfl Try.ntmps98 rfl ?_
  refine wp_seq_k fun K13 hK13 => ?_
  refine wp_region_lit ?_
  refine seqd rfl rfl (does_box (u := (.agg #[(Fl r1), (Fl r3), (Fl r5)])) (ev rfl)) ?_; rintro _ w18 ⟨b14, rfl, hb15, hB16, E17⟩
  have g19 : w.heap.size ≤ b14 := Nat.le_trans (Below.size (Ext.refl w)) hb15
  change Blk _ _ [(Fl r1), (Fl r3), (Fl r5)] at hB16
  have X20 := Ext.gr (Ext.refl w) E17
  show wpList _ _ _ _ (fr [(.agg #[(Fl r1), (Fl r3), (Fl r5)]), (.agg #[(Fl r7), (Fl r9), (Fl r11)]), (Pt b14 0), Ud, Ud, Ud, Ud, Ud, Ud, Ud, Ud, Ud, Ud, Ud, Ud, Ud, Ud, Ud, Ud, Ud, Ud]) _
  refine seqd rfl rfl (does_box (u := (.agg #[(Fl r7), (Fl r9), (Fl r11)])) (ev rfl)) ?_; rintro _ w25 ⟨b21, rfl, hb22, hB23, E24⟩
  have n26 : b14 < b21 := Nat.lt_of_lt_of_le (Blk.lt hB16) hb22
  have g27 : w.heap.size ≤ b21 := Nat.le_trans (Below.size X20) hb22
  change Blk _ _ [(Fl r7), (Fl r9), (Fl r11)] at hB23
  have X28 := Ext.gr X20 E24
  show wpList _ _ _ _ (fr [(.agg #[(Fl r1), (Fl r3), (Fl r5)]), (.agg #[(Fl r7), (Fl r9), (Fl r11)]), (Pt b14 0), (Pt b21 0), Ud, Ud, Ud, Ud, Ud, Ud, Ud, Ud, Ud, Ud, Ud, Ud, Ud, Ud, Ud, Ud, Ud]) _
  refine seqd rfl rfl (does_alloc z40) ?_; rintro _ w33 ⟨b29, rfl, hb30, hB31, E32⟩
  have n34 : b14 < b29 := Nat.lt_of_lt_of_le (Blk.lt (hB16.ext E24)) hb30
  have n35 : b21 < b29 := Nat.lt_of_lt_of_le (Blk.lt hB23) hb30
  have g36 : w.heap.size ≤ b29 := Nat.le_trans (Below.size X28) hb30
  change Blk _ _ [(Fl 0), (Fl 0), (Fl 0)] at hB31
  have X37 := Ext.gr X28 E32
  show wpList _ _ _ _ (fr [(.agg #[(Fl r1), (Fl r3), (Fl r5)]), (.agg #[(Fl r7), (Fl r9), (Fl r11)]), (Pt b14 0), (Pt b21 0), (Pt b29 0), Ud, Ud, Ud, Ud, Ud, Ud, Ud, Ud, Ud, Ud, Ud, Ud, Ud, Ud, Ud, Ud]) _
  refine wpList_nil (hK13 _ _ ?_)
  refine wp_seq_k fun K38 hK38 => ?_
  refine wp_region_lit ?_
  refine q_is (l' := [(.agg #[(Fl r1), (Fl r3), (Fl r5)]), (.agg #[(Fl r7), (Fl r9), (Fl r11)]), (Pt b14 0), (Pt b21 0), (Pt b29 0), (Pt b14 0), Ud, Ud, Ud, Ud, Ud, Ud, Ud, Ud, Ud, Ud, Ud, Ud, Ud, Ud, Ud]) rfl rfl (does_fieldAddr (ev rfl) fa40_0) rfl ?_
  refine q_is (l' := [(.agg #[(Fl r1), (Fl r3), (Fl r5)]), (.agg #[(Fl r7), (Fl r9), (Fl r11)]), (Pt b14 0), (Pt b21 0), (Pt b29 0), (Pt b14 0), (Fl r1), Ud, Ud, Ud, Ud, Ud, Ud, Ud, Ud, Ud, Ud, Ud, Ud, Ud, Ud]) rfl rfl (does_load (u := (Fl r1)) (ev rfl) Try.isAgg38 (Cells.at (Blk.cells ((hB16.ext E24).ext E32)) 0 rfl)) rfl ?_
  refine q_is (l' := [(.agg #[(Fl r1), (Fl r3), (Fl r5)]), (.agg #[(Fl r7), (Fl r9), (Fl r11)]), (Pt b14 0), (Pt b21 0), (Pt b29 0), (Pt b14 0), (Fl r1), (Pt b21 0), Ud, Ud, Ud, Ud, Ud, Ud, Ud, Ud, Ud, Ud, Ud, Ud, Ud]) rfl rfl (does_fieldAddr (ev rfl) fa40_0) rfl ?_
  refine q_is (l' := [(.agg #[(Fl r1), (Fl r3), (Fl r5)]), (.agg #[(Fl r7), (Fl r9), (Fl r11)]), (Pt b14 0), (Pt b21 0), (Pt b29 0), (Pt b14 0), (Fl r1), (Pt b21 0), (Fl r7), Ud, Ud, Ud, Ud, Ud, Ud, Ud, Ud, Ud, Ud, Ud, Ud]) rfl rfl (does_load (u := (Fl r7)) (ev rfl) Try.isAgg38 (Cells.at (Blk.cells (hB23.ext E32)) 0 rfl)) rfl ?_
  refine seqd rfl rfl (does_float (.inr (.inl rfl)) (ev rfl) (ev rfl)) ?_; rintro _ w42 ⟨r39, rfl, h40, E41⟩
  have X43 := Ext.gr X37 E41
  show wpList _ _ _ _ (fr [(.agg #[(Fl r1), (Fl r3), (Fl r5)]), (.agg #[(Fl r7), (Fl r9), (Fl r11)]), (Pt b14 0), (Pt b21 0), (Pt b29 0), (Pt b14 0), (Fl r1), (Pt b21 0), (Fl r7), (Fl r39), Ud, Ud, Ud, Ud, Ud, Ud, Ud, Ud, Ud, Ud, Ud]) _
  refine q_is (l' := [(.agg #[(Fl r1), (Fl r3), (Fl r5)]), (.agg #[(Fl r7), (Fl r9), (Fl r11)]), (Pt b14 0), (Pt b21 0), (Pt b29 0), (Pt b14 0), (Fl r1), (Pt b21 0), (Fl r7), (Fl r39), (Pt b14 1), Ud, Ud, Ud, Ud, Ud, Ud, Ud, Ud, Ud, Ud]) rfl rfl (does_fieldAddr (ev rfl) fa40_1) rfl ?_
  refine q_is (l' := [(.agg #[(Fl r1), (Fl r3), (Fl r5)]), (.agg #[(Fl r7), (Fl r9), (Fl r11)]), (Pt b14 0), (Pt b21 0), (Pt b29 0), (Pt b14 0), (Fl r1), (Pt b21 0), (Fl r7), (Fl r39), (Pt b14 1), (Fl r3), Ud, Ud, Ud, Ud, Ud, Ud, Ud, Ud, Ud]) rfl rfl (does_load (u := (Fl r3)) (ev rfl) Try.isAgg38 (Cells.at (Blk.cells (((hB16.ext E24).ext E32).ext E41)) 1 rfl)) rfl ?_
  refine q_is (l' := [(.agg #[(Fl r1), (Fl r3), (Fl r5)]), (.agg #[(Fl r7), (Fl r9), (Fl r11)]), (Pt b14 0), (Pt b21 0), (Pt b29 0), (Pt b14 0), (Fl r1), (Pt b21 0), (Fl r7), (Fl r39), (Pt b14 1), (Fl r3), (Pt b21 1), Ud, Ud, Ud, Ud, Ud, Ud, Ud, Ud]) rfl rfl (does_fieldAddr (ev rfl) fa40_1) rfl ?_
  refine q_is (l' := [(.agg #[(Fl r1), (Fl r3), (Fl r5)]), (.agg #[(Fl r7), (Fl r9), (Fl r11)]), (Pt b14 0), (Pt b21 0), (Pt b29 0), (Pt b14 0), (Fl r1), (Pt b21 0), (Fl r7), (Fl r39), (Pt b14 1), (Fl r3), (Pt b21 1), (Fl r9), Ud, Ud, Ud, Ud, Ud, Ud, Ud]) rfl rfl (does_load (u := (Fl r9)) (ev rfl) Try.isAgg38 (Cells.at (Blk.cells ((hB23.ext E32).ext E41)) 1 rfl)) rfl ?_
  refine seqd rfl rfl (does_float (.inr (.inl rfl)) (ev rfl) (ev rfl)) ?_; rintro _ w47 ⟨r44, rfl, h45, E46⟩
  have X48 := Ext.gr X43 E46
  show wpList _ _ _ _ (fr [(.agg #[(Fl r1), (Fl r3), (Fl r5)]), (.agg #[(Fl r7), (Fl r9), (Fl r11)]), (Pt b14 0), (Pt b21 0), (Pt b29 0), (Pt b14 0), (Fl r1), (Pt b21 0), (Fl r7), (Fl r39), (Pt b14 1), (Fl r3), (Pt b21 1), (Fl r9), (Fl r44), Ud, Ud, Ud, Ud, Ud, Ud]) _
  refine q_is (l' := [(.agg #[(Fl r1), (Fl r3), (Fl r5)]), (.agg #[(Fl r7), (Fl r9), (Fl r11)]), (Pt b14 0), (Pt b21 0), (Pt b29 0), (Pt b14 0), (Fl r1), (Pt b21 0), (Fl r7), (Fl r39), (Pt b14 1), (Fl r3), (Pt b21 1), (Fl r9), (Fl r44), (Pt b14 2), Ud, Ud, Ud, Ud, Ud]) rfl rfl (does_fieldAddr (ev rfl) fa40_2) rfl ?_
  refine q_is (l' := [(.agg #[(Fl r1), (Fl r3), (Fl r5)]), (.agg #[(Fl r7), (Fl r9), (Fl r11)]), (Pt b14 0), (Pt b21 0), (Pt b29 0), (Pt b14 0), (Fl r1), (Pt b21 0), (Fl r7), (Fl r39), (Pt b14 1), (Fl r3), (Pt b21 1), (Fl r9), (Fl r44), (Pt b14 2), (Fl r5), Ud, Ud, Ud, Ud]) rfl rfl (does_load (u := (Fl r5)) (ev rfl) Try.isAgg38 (Cells.at (Blk.cells ((((hB16.ext E24).ext E32).ext E41).ext E46)) 2 rfl)) rfl ?_
  refine q_is (l' := [(.agg #[(Fl r1), (Fl r3), (Fl r5)]), (.agg #[(Fl r7), (Fl r9), (Fl r11)]), (Pt b14 0), (Pt b21 0), (Pt b29 0), (Pt b14 0), (Fl r1), (Pt b21 0), (Fl r7), (Fl r39), (Pt b14 1), (Fl r3), (Pt b21 1), (Fl r9), (Fl r44), (Pt b14 2), (Fl r5), (Pt b21 2), Ud, Ud, Ud]) rfl rfl (does_fieldAddr (ev rfl) fa40_2) rfl ?_
  refine q_is (l' := [(.agg #[(Fl r1), (Fl r3), (Fl r5)]), (.agg #[(Fl r7), (Fl r9), (Fl r11)]), (Pt b14 0), (Pt b21 0), (Pt b29 0), (Pt b14 0), (Fl r1), (Pt b21 0), (Fl r7), (Fl r39), (Pt b14 1), (Fl r3), (Pt b21 1), (Fl r9), (Fl r44), (Pt b14 2), (Fl r5), (Pt b21 2), (Fl r11), Ud, Ud]) rfl rfl (does_load (u := (Fl r11)) (ev rfl) Try.isAgg38 (Cells.at (Blk.cells (((hB23.ext E32).ext E41).ext E46)) 2 rfl)) rfl ?_
  refine seqd rfl rfl (does_float (.inr (.inl rfl)) (ev rfl) (ev rfl)) ?_; rintro _ w52 ⟨r49, rfl, h50, E51⟩
  have X53 := Ext.gr X48 E51
  show wpList _ _ _ _ (fr [(.agg #[(Fl r1), (Fl r3), (Fl r5)]), (.agg #[(Fl r7), (Fl r9), (Fl r11)]), (Pt b14 0), (Pt b21 0), (Pt b29 0), (Pt b14 0), (Fl r1), (Pt b21 0), (Fl r7), (Fl r39), (Pt b14 1), (Fl r3), (Pt b21 1), (Fl r9), (Fl r44), (Pt b14 2), (Fl r5), (Pt b21 2), (Fl r11), (Fl r49), Ud]) _
  refine q_is (l' := [(.agg #[(Fl r1), (Fl r3), (Fl r5)]), (.agg #[(Fl r7), (Fl r9), (Fl r11)]), (Pt b14 0), (Pt b21 0), (Pt b29 0), (Pt b14 0), (Fl r1), (Pt b21 0), (Fl r7), (Fl r39), (Pt b14 1), (Fl r3), (Pt b21 1), (Fl r9), (Fl r44), (Pt b14 2), (Fl r5), (Pt b21 2), (Fl r11), (Fl r49), (.agg #[(Fl r39), (Fl r44), (Fl r49)])]) rfl rfl (does_build (parts' := [(0, (Fl r39)), (1, (Fl r44)), (2, (Fl r49))]) (cells := #[(Fl r39), (Fl r44), (Fl r49)]) (evp rfl) (by kernel_rfl)) rfl ?_
  refine seqn rfl rfl (does_store (n := 3) (cs := [(Fl 0), (Fl 0), (Fl 0)]) (u := (.agg #[(Fl r39), (Fl r44), (Fl r49)])) (ev rfl) (ev rfl) Try.sizeOf40 rfl (((hB31.ext E41).ext E46).ext E51) (Nat.le_of_ble_eq_true rfl) rfl) ?_; rintro _ w56 ⟨rfl, W54, hB55⟩
  change Blk _ _ [(Fl r39), (Fl r44), (Fl r49)] at hB55
  have X57 := Below.wr X53 W54 g36
  refine wpList_nil (hK38 _ _ ?_)
  refine wp_ret ?_
  refine ret_val (v := (.agg #[(Fl r39), (Fl r44), (Fl r49)])) (res_C rfl (slot rfl) (run_loadAgg (cs := [(Fl r39), (Fl r44), (Fl r49)]) Try.isAgg40 Try.sizeOf40 (Blk.cells hB55) rfl)) X57 ?_
  have x58 : cf .f32 r39 = (vsub A_a A_b).x := by first | with_reducible rfl | (simp only [vsub, h2, h4, h6, h8, h10, h12, h40, h45, h50]; done) | (simp [vsub, h2, h4, h6, h8, h10, h12, h40, h45, h50]; done) | rfl
  have x59 : cf .f32 r44 = (vsub A_a A_b).y := by first | with_reducible rfl | (simp only [vsub, h2, h4, h6, h8, h10, h12, h40, h45, h50]; done) | (simp [vsub, h2, h4, h6, h8, h10, h12, h40, h45, h50]; done) | rfl
  have x60 : cf .f32 r49 = (vsub A_a A_b).z := by first | with_reducible rfl | (simp only [vsub, h2, h4, h6, h8, h10, h12, h40, h45, h50]; done) | (simp [vsub, h2, h4, h6, h8, h10, h12, h40, h45, h50]; done) | rfl
  exact ⟨[(Fl r39), (Fl r44), (Fl r49)], rfl, ⟨r39, r44, r49, rfl, x58, x59, x60⟩⟩

/- impl.AddVectors -/
theorem c_impl_AddVectors (a : List Value) (A_a : V3) (b : List Value) (A_b : V3) (w : World) (hv_a : RV3 w A_a a) (hv_b : RV3 w A_b b) : Gives Try.prog 108 #[(.agg a.toArray), (.agg b.toArray)] w (fun v w' => ∃ cs_1 : List Value, v = (.agg cs_1.toArray) ∧ RV3 w (vadd A_a A_b) cs_1) := by
  obtain ⟨r1, r3, r5, rfl, h2, h4, h6⟩ := hv_a
  obtain ⟨r7, r9, r11, rfl, h8, h10, h12⟩ := hv_b
  refine enter [(.agg #[(Fl r1), (Fl r3), (Fl r5)]), (.agg #[(Fl r7), (Fl r9), (Fl r11)]), Ud, Ud, Ud, Ud, Ud, Ud, Ud, Ud, Ud, Ud, Ud, Ud, Ud, Ud, Ud, Ud, Ud, Ud, Ud] Try.func108 rfl Try.ntmps108 rfl ?_
  refine wp_seq_k fun K13 hK13 => ?_
  refine wp_region_lit ?_
  refine seqd rfl rfl (does_box (u := (.agg #[(Fl r1), (Fl r3), (Fl r5)])) (ev rfl)) ?_; rintro _ w18 ⟨b14, rfl, hb15, hB16, E17⟩
  have g19 : w.heap.size ≤ b14 := Nat.le_trans (Below.size (Ext.refl w)) hb15
  change Blk _ _ [(Fl r1), (Fl r3), (Fl r5)] at hB16
  have X20 := Ext.gr (Ext.refl w) E17
  show wpList _ _ _ _ (fr [(.agg #[(Fl r1), (Fl r3), (Fl r5)]), (.agg #[(Fl r7), (Fl r9), (Fl r11)]), (Pt b14 0), Ud, Ud, Ud, Ud, Ud, Ud, Ud, Ud, Ud, Ud, Ud, Ud, Ud, Ud, Ud, Ud, Ud, Ud]) _
  refine seqd rfl rfl (does_box (u := (.agg #[(Fl r7), (Fl r9), (Fl r11)])) (ev rfl)) ?_; rintro _ w25 ⟨b21, rfl, hb22, hB23, E24⟩
  have n26 : b14 < b21 := Nat.lt_of_lt_of_le (Blk.lt hB16) hb22
  have g27 : w.heap.size ≤ b21 := Nat.le_trans (Below.size X20) hb22
  change Blk _ _ [(Fl r7), (Fl r9), (Fl r11)] at hB23
  have X28 := Ext.gr X20 E24
  show wpList _ _ _ _ (fr [(.agg #[(Fl r1), (Fl r3), (Fl r5)]), (.agg #[(Fl r7), (Fl r9), (Fl r11)]), (Pt b14 0), (Pt b21 0), Ud, Ud, Ud, Ud, Ud, Ud, Ud, Ud, Ud, Ud, Ud, Ud, Ud, Ud, Ud, Ud, Ud]) _
  refine seqd rfl rfl (does_alloc z40) ?_; rintro _ w33 ⟨b29, rfl, hb30, hB31, E32⟩
  have n34 : b14 < b29 := Nat.lt_of_lt_of_le (Blk.lt (hB16.ext E24)) hb30
  have n35 : b21 < b29 := Nat.lt_of_lt_of_le (Blk.lt hB23) hb30
  have g36 : w.heap.size ≤ b29 := Nat.le_trans (Below.size X28) hb30
  change Blk _ _ [(Fl 0), (Fl 0), (Fl 0)] at hB31
  have X37 := Ext.gr X28 E32
  show wpList _ _ _ _ (fr [(.agg #[(Fl r1), (Fl r3), (Fl r5)]), (.agg #[(Fl r7), (Fl r9), (Fl r11)]), (Pt b14 0), (Pt b21 0), (Pt b29 0), Ud, Ud, Ud, Ud, Ud, Ud, Ud, Ud, Ud, Ud, Ud, Ud, Ud, Ud, Ud, Ud]) _
  refine wpList_nil (hK13 _ _ ?_)
  refine wp_seq_k fun K38 hK38 => ?_
  refine wp_region_lit ?_
  refine q_is (l' := [(.agg #[(Fl r1), (Fl r3), (Fl r5)]), (.agg #[(Fl r7), (Fl r9), (Fl r11)]), (Pt b14 0), (Pt b21 0), (Pt b29 0), (Pt b14 0), Ud, Ud, Ud, Ud, Ud, Ud, Ud, Ud, Ud, Ud, Ud, Ud, Ud, Ud, Ud]) rfl rfl (does_fieldAddr (ev rfl) fa40_0) rfl ?_
  refine q_is (l' := [(.agg #[(Fl r1), (Fl r3), (Fl r5)]), (.agg #[(Fl r7), (Fl r9), (Fl r11)]), (Pt b14 0), (Pt b21 0), (Pt b29 0), (Pt b14 0), (Fl r1), Ud, Ud, Ud, Ud, Ud, Ud, Ud, Ud, Ud, Ud, Ud, Ud, Ud, Ud]) rfl rfl (does_load (u := (Fl r1)) (ev rfl) Try.isAgg38 (Cells.at (Blk.cells ((hB16.ext E24).ext E32)) 0 rfl)) rfl ?_
  refine q_is (l' := [(.agg #[(Fl r1), (Fl r3), (Fl r5)]), (.agg #[(Fl r7), (Fl r9), (Fl r11)]), (Pt b14 0), (Pt b21 0), (Pt b29 0), (Pt b14 0), (Fl r1), (Pt b21 0), Ud, Ud, Ud, Ud, Ud, Ud, Ud, Ud, Ud, Ud, Ud, Ud, Ud]) rfl rfl (does_fieldAddr (ev rfl) fa40_0) rfl ?_
  refine q_is (l' := [(.agg #[(Fl r1), (Fl r3), (Fl r5)]), (.agg #[(Fl r7), (Fl r9), (Fl r11)]), (Pt b14 0), (Pt b21 0), (Pt b29 0), (Pt b14 0), (Fl r1), (Pt b21 0), (Fl r7), Ud, Ud, Ud, Ud, Ud, Ud, Ud, Ud, Ud, Ud, Ud, Ud]) rfl rfl (does_load (u := (Fl r7)) (ev rfl) Try.isAgg38 (Cells.at (Blk.cells (hB23.ext E32)) 0 rfl)) rfl ?_
  refine seqd rfl rfl (does_float (.inl rfl) (ev rfl) (ev rfl)) ?_; rintro _ w42 ⟨r39, rfl, h40, E41⟩
  have X43 := Ext.gr X37 E41
  show wpList _ _ _ _ (fr [(.agg #[(Fl r1), (Fl r3), (Fl r5)]), (.agg #[(Fl r7), (Fl r9), (Fl r11)]), (Pt b14 0), (Pt b21 0), (Pt b29 0), (Pt b14 0), (Fl r1), (Pt b21 0), (Fl r7), (Fl r39), Ud, Ud, Ud, Ud, Ud, Ud, Ud, Ud, Ud, Ud, Ud]) _
  refine q_is (l' := [(.agg #[(Fl r1), (Fl r3), (Fl r5)]), (.agg #[(Fl r7), (Fl r9), (Fl r11)]), (Pt b14 0), (Pt b21 0), (Pt b29 0), (Pt b14 0), (Fl r1), (Pt b21 0), (Fl r7), (Fl r39), (Pt b14 1), Ud, Ud, Ud, Ud, Ud, Ud, Ud, Ud, Ud, Ud]) rfl rfl (does_fieldAddr (ev rfl) fa40_1) rfl ?_
  refine q_is (l' := [(.agg #[(Fl r1), (Fl r3), (Fl r5)]), (.agg #[(Fl r7), (Fl r9), (Fl r11)]), (Pt b14 0), (Pt b21 0), (Pt b29 0), (Pt b14 0), (Fl r1), (Pt b21 0), (Fl r7), (Fl r39), (Pt b14 1), (Fl r3), Ud, Ud, Ud, Ud, Ud, Ud, Ud, Ud, Ud]) rfl rfl (does_load (u := (Fl r3)) (ev rfl) Try.isAgg38 (Cells.at (Blk.cells (((hB16.ext E24).ext E32).ext E41)) 1 rfl)) rfl ?_
  refine q_is (l' := [(.agg #[(Fl r1), (Fl r3), (Fl r5)]), (.agg #[(Fl r7), (Fl r9), (Fl r11)]), (Pt b14 0), (Pt b21 0), (Pt b29 0), (Pt b14 0), (Fl r1), (Pt b21 0), (Fl r7), (Fl r39), (Pt b14 1), (Fl r3), (Pt b21 1), Ud, Ud, Ud, Ud, Ud, Ud, Ud, Ud]) rfl rfl (does_fieldAddr (ev rfl) fa40_1) rfl ?_
  refine q_is (l' := [(.agg #[(Fl r1), (Fl r3), (Fl r5)]), (.agg #[(Fl r7), (Fl r9), (Fl r11)]), (Pt b14 0), (Pt b21 0), (Pt b29 0), (Pt b14 0), (Fl r1), (Pt b21 0), (Fl r7), (Fl r39), (Pt b14 1), (Fl r3), (Pt b21 1), (Fl r9), Ud, Ud, Ud, Ud, Ud, Ud, Ud]) rfl rfl (does_load (u := (Fl r9)) (ev rfl) Try.isAgg38 (Cells.at (Blk.cells ((hB23.ext E32).ext E41)) 1 rfl)) rfl ?_
  refine seqd rfl rfl (does_float (.inl rfl) (ev rfl) (ev rfl)) ?_; rintro _ w47 ⟨r44, rfl, h45, E46⟩
  have X48 := Ext.gr X43 E46
  show wpList _ _ _ _ (fr [(.agg #[(Fl r1), (Fl r3), (Fl r5)]), (.agg #[(Fl r7), (Fl r9), (Fl r11)]), (Pt b14 0), (Pt b21 0), (Pt b29 0), (Pt b14 0), (Fl r1), (Pt b21 0), (Fl r7), (Fl r39), (Pt b14 1), (Fl r3), (Pt b21 1), (Fl r9), (Fl r44), Ud, Ud, Ud, Ud, Ud, Ud]) _
  refine q_is (l' := [(.agg #[(Fl r1), (Fl r3), (Fl r5)]), (.agg #[(Fl r7), (Fl r9), (Fl r11)]), (Pt b14 0), (Pt b21 0), (Pt b29 0), (Pt b14 0), (Fl r1), (Pt b21 0), (Fl r7), (Fl r39), (Pt b14 1), (Fl r3), (Pt b21 1), (Fl r9), (Fl r44), (Pt b14 2), Ud, Ud, Ud, Ud, Ud]) rfl rfl (does_fieldAddr (ev rfl) fa40_2) rfl ?_
  refine q_is (l' := [(.agg #[(Fl r1), (Fl r3), (Fl r5)]), (.agg #[(Fl r7), (Fl r9), (Fl r11)]), (Pt b14 0), (Pt b21 0), (Pt b29 0), (Pt b14 0), (Fl r1), (Pt b21 0), (Fl r7), (Fl r39), (Pt b14 1), (Fl r3), (Pt b21 1), (Fl r9), (Fl r44), (Pt b14 2), (Fl r5), Ud, Ud, Ud, Ud]) rfl rfl (does_load (u := (Fl r5)) (ev rfl) Try.isAgg38 (Cells.at (Blk.cells ((((hB16.ext E24).ext E32).ext E41).ext E46)) 2 rfl)) rfl ?_
  refine q_is (l' := [(.agg #[(Fl r1), (Fl r3), (Fl r5)]), (.agg #[(Fl r7), (Fl r9), (Fl r11)]), (Pt b14 0), (Pt b21 0), (Pt b29 0), (Pt b14 0), (Fl r1), (Pt b21 0), (Fl r7), (Fl r39), (Pt b14 1), (Fl r3), (Pt b21 1), (Fl r9), (Fl r44), (Pt b14 2), (Fl r5), (Pt b21 2), Ud, Ud, Ud]) rfl rfl (does_fieldAddr (ev rfl) fa40_2) rfl ?_
  refine q_is (l' := [(.agg #[(Fl r1), (Fl r3), (Fl r5)]), (.agg #[(Fl r7), (Fl r9), (Fl r11)]), (Pt b14 0), (Pt b21 0), (Pt b29 0), (Pt b14 0), (Fl r1), (Pt b21 0), (Fl r7), (Fl r39), (Pt b14 1), (Fl r3), (Pt b21 1), (Fl r9), (Fl r44), (Pt b14 2), (Fl r5), (Pt b21 2), (Fl r11), Ud, Ud]) rfl rfl (does_load (u := (Fl r11)) (ev rfl) Try.isAgg38 (Cells.at (Blk.cells (((hB23.ext E32).ext E41).ext E46)) 2 rfl)) rfl ?_
  refine seqd rfl rfl (does_float (.inl rfl) (ev rfl) (ev rfl)) ?_; rintro _ w52 ⟨r49, rfl, h50, E51⟩
  have X53 := Ext.gr X48 E51
  show wpList _ _ _ _ (fr [(.agg #[(Fl r1), (Fl r3), (Fl r5)]), (.agg #[(Fl r7), (Fl r9), (Fl r11)]), (Pt b14 0), (Pt b21 0), (Pt b29 0), (Pt b14 0), (Fl r1), (Pt b21 0), (Fl r7), (Fl r39), (Pt b14 1), (Fl r3), (Pt b21 1), (Fl r9), (Fl r44), (Pt b14 2), (Fl r5), (Pt b21 2), (Fl r11), (Fl r49), Ud]) _
  refine q_is (l' := [(.agg #[(Fl r1), (Fl r3), (Fl r5)]), (.agg #[(Fl r7), (Fl r9), (Fl r11)]), (Pt b14 0), (Pt b21 0), (Pt b29 0), (Pt b14 0), (Fl r1), (Pt b21 0), (Fl r7), (Fl r39), (Pt b14 1), (Fl r3), (Pt b21 1), (Fl r9), (Fl r44), (Pt b14 2), (Fl r5), (Pt b21 2), (Fl r11), (Fl r49), (.agg #[(Fl r39), (Fl r44), (Fl r49)])]) rfl rfl (does_build (parts' := [(0, (Fl r39)), (1, (Fl r44)), (2, (Fl r49))]) (cells := #[(Fl r39), (Fl r44), (Fl r49)]) (evp rfl) (by kernel_rfl)) rfl ?_
  refine seqn rfl rfl (does_store (n := 3) (cs := [(Fl 0), (Fl 0), (Fl 0)]) (u := (.agg #[(Fl r39), (Fl r44), (Fl r49)])) (ev rfl) (ev rfl) Try.sizeOf40 rfl (((hB31.ext E41).ext E46).ext E51) (Nat.le_of_ble_eq_true rfl) rfl) ?_; rintro _ w56 ⟨rfl, W54, hB55⟩
  change Blk _ _ [(Fl r39), (Fl r44), (Fl r49)] at hB55
  have X57 := Below.wr X53 W54 g36
  refine wpList_nil (hK38 _ _ ?_)
  refine wp_ret ?_
  refine ret_val (v := (.agg #[(Fl r39), (Fl r44), (Fl r49)])) (res_C rfl (slot rfl) (run_loadAgg (cs := [(Fl r39), (Fl r44), (Fl r49)]) Try.isAgg40 Try.sizeOf40 (Blk.cells hB55) rfl)) X57 ?_
  have x58 : cf .f32 r39 = (vadd A_a A_b).x := by first | with_reducible rfl | (simp only [vadd, h2, h4, h6, h8, h10, h12, h40, h45, h50]; done) | (simp [vadd, h2, h4, h6, h8, h10, h12, h40, h45, h50]; done) | rfl
  have x59 : cf .f32 r44 = (vadd A_a A_b).y := by first | with_reducible rfl | (simp only [vadd, h2, h4, h6, h8, h10, h12, h40, h45, h50]; done) | (simp [vadd, h2, h4, h6, h8, h10, h12, h40, h45, h50]; done) | rfl
  have x60 : cf .f32 r49 = (vadd A_a A_b).z := by first | with_reducible rfl | (simp only [vadd, h2, h4, h6, h8, h10, h12, h40, h45, h50]; done) | (simp [vadd, h2, h4, h6, h8, h10, h12, h40, h45, h50]; done) | rfl
  exact ⟨[(Fl r39), (Fl r44), (Fl r49)], rfl, ⟨r39, r44, r49, rfl, x58, x59, x60⟩⟩

/- impl.ScaleVector -/
theorem c_impl_ScaleVector (a : List Value) (A_a : V3) (b : Nat) (w : World) (hv_a : RV3 w A_a a) : Gives Try.prog 109 #[(.agg a.toArray), (Fl b)] w (fun v w' => ∃ cs_1 : List Value, v = (.agg cs_1.toArray) ∧ RV3 w (vscale A_a (cf .f32 b)) cs_1) := by
  obtain ⟨r1, r3, r5, rfl, h2, h4, h6⟩ := hv_a
  refine enter [(.agg #[(Fl r1), (Fl r3), (Fl r5)]), (Fl b), Ud, Ud, Ud, Ud, Ud, Ud, Ud, Ud, Ud, Ud, Ud, Ud, Ud, Ud, Ud, Ud] Try.func109 rfl Try.ntmps109 rfl ?_
  refine wp_seq_k fun K7 hK7 => ?_
  refine wp_region_lit ?_
  refine seqd rfl rfl (does_box (u := (.agg #[(Fl r1), (Fl r3), (Fl r5)])) (ev rfl)) ?_; rintro _ w12 ⟨b8, rfl, hb9, hB10, E11⟩
  have g13 : w.heap.size ≤ b8 := Nat.le_trans (Below.size (Ext.refl w)) hb9
  change Blk _ _ [(Fl r1), (Fl r3), (Fl r5)] at hB10
  have X14 := Ext.gr (Ext.refl w) E11
  show wpList _ _ _ _ (fr [(.agg #[(Fl r1), (Fl r3), (Fl r5)]), (Fl b), (Pt b8 0), Ud, Ud, Ud, Ud, Ud, Ud, Ud, Ud, Ud, Ud, Ud, Ud, Ud, Ud, Ud]) _
  refine seqd rfl rfl (does_alloc z40) ?_; rintro _ w19 ⟨b15, rfl, hb16, hB17, E18⟩
  have n20 : b8 < b15 := Nat.lt_of_lt_of_le (Blk.lt hB10) hb16
  have g21 : w.heap.size ≤ b15 := Nat.le_trans (Below.size X14) hb16
  change Blk _ _ [(Fl 0), (Fl 0), (Fl 0)] at hB17
  have X22 := Ext.gr X14 E18
  show wpList _ _ _ _ (fr [(.agg #[(Fl r1), (Fl r3), (Fl r5)]), (Fl b), (Pt b8 0), Ud, (Pt b15 0), Ud, Ud, Ud, Ud, Ud, Ud, Ud, Ud, Ud, Ud, Ud, Ud, Ud]) _
  refine wpList_nil (hK7 _ _ ?_)
  refine wp_seq_k fun K23 hK23 => ?_
  refine wp_region_lit ?_
  refine q_is (l' := [(.agg #[(Fl r1), (Fl r3), (Fl r5)]), (Fl b), (Pt b8 0), Ud, (Pt b15 0), (Pt b8 0), Ud, Ud, Ud, Ud, Ud, Ud, Ud, Ud, Ud, Ud, Ud, Ud]) rfl rfl (does_fieldAddr (ev rfl) fa40_0) rfl ?_
  refine q_is (l' := [(.agg #[(Fl r1), (Fl r3), (Fl r5)]), (Fl b), (Pt b8 0), Ud, (Pt b15 0), (Pt b8 0), (Fl r1), Ud, Ud, Ud, Ud, Ud, Ud, Ud, Ud, Ud, Ud, Ud]) rfl rfl (does_load (u := (Fl r1)) (ev rfl) Try.isAgg38 (Cells.at (Blk.cells (hB10.ext E18)) 0 rfl)) rfl ?_
  refine q_is (l' := [(.agg #[(Fl r1), (Fl r3), (Fl r5)]), (Fl b), (Pt b8 0), Ud, (Pt b15 0), (Pt b8 0), (Fl r1), (Fl b), Ud, Ud, Ud, Ud, Ud, Ud, Ud, Ud, Ud, Ud]) rfl rfl (does_move (u := (Fl b)) (ev rfl)) rfl ?_
  refine seqd rfl rfl (does_float (.inr (.inr (.inl rfl))) (ev rfl) (ev rfl)) ?_; rintro _ w27 ⟨r24, rfl, h25, E26⟩
  have X28 := Ext.gr X22 E26
  show wpList _ _ _ _ (fr [(.agg #[(Fl r1), (Fl r3), (Fl r5)]), (Fl b), (Pt b8 0), Ud, (Pt b15 0), (Pt b8 0), (Fl r1), (Fl b), (Fl r24), Ud, Ud, Ud, Ud, Ud, Ud, Ud, Ud, Ud]) _
  refine q_is (l' := [(.agg #[(Fl r1), (Fl r3), (Fl r5)]), (Fl b), (Pt b8 0), Ud, (Pt b15 0), (Pt b8 0), (Fl r1), (Fl b), (Fl r24), (Pt b8 1), Ud, Ud, Ud, Ud, Ud, Ud, Ud, Ud]) rfl rfl (does_fieldAddr (ev rfl) fa40_1) rfl ?_
  refine q_is (l' := [(.agg #[(Fl r1), (Fl r3), (Fl r5)]), (Fl b), (Pt b8 0), Ud, (Pt b15 0), (Pt b8 0), (Fl r1), (Fl b), (Fl r24), (Pt b8 1), (Fl r3), Ud, Ud, Ud, Ud, Ud, Ud, Ud]) rfl rfl (does_load (u := (Fl r3)) (ev rfl) Try.isAgg38 (Cells.at (Blk.cells ((hB10.ext E18).ext E26)) 1 rfl)) rfl ?_
  refine q_is (l' := [(.agg #[(Fl r1), (Fl r3), (Fl r5)]), (Fl b), (Pt b8 0), Ud, (Pt b15 0), (Pt b8 0), (Fl r1), (Fl b), (Fl r24), (Pt b8 1), (Fl r3), (Fl b), Ud, Ud, Ud, Ud, Ud, Ud]) rfl rfl (does_move (u := (Fl b)) (ev rfl)) rfl ?_
  refine seqd rfl rfl (does_float (.inr (.inr (.inl rfl))) (ev rfl) (ev rfl)) ?_; rintro _ w32 ⟨r29, rfl, h30, E31⟩
  have X33 := Ext.gr X28 E31
  show wpList _ _ _ _ (fr [(.agg #[(Fl r1), (Fl r3), (Fl r5)]), (Fl b), (Pt b8 0), Ud, (Pt b15 0), (Pt b8 0), (Fl r1), (Fl b), (Fl r24), (Pt b8 1), (Fl r3), (Fl b), (Fl r29), Ud, Ud, Ud, Ud, Ud]) _
  refine q_is (l' := [(.agg #[(Fl r1), (Fl r3), (Fl r5)]), (Fl b), (Pt b8 0), Ud, (Pt b15 0), (Pt b8 0), (Fl r1), (Fl b), (Fl r24), (Pt b8 1), (Fl r3), (Fl b), (Fl r29), (Pt b8 2), Ud, Ud, Ud, Ud]) rfl rfl (does_fieldAddr (ev rfl) fa40_2) rfl ?_
  refine q_is (l' := [(.agg #[(Fl r1), (Fl r3), (Fl r5)]), (Fl b), (Pt b8 0), Ud, (Pt b15 0), (Pt b8 0), (Fl r1), (Fl b), (Fl r24), (Pt b8 1), (Fl r3), (Fl b), (Fl r29), (Pt b8 2), (Fl r5), Ud, Ud, Ud]) rfl rfl (does_load (u := (Fl r5)) (ev rfl) Try.isAgg38 (Cells.at (Blk.cells (((hB10.ext E18).ext E26).ext E31)) 2 rfl)) rfl ?_
  refine q_is (l' := [(.agg #[(Fl r1), (Fl r3), (Fl r5)]), (Fl b), (Pt b8 0), Ud, (Pt b15 0), (Pt b8 0), (Fl r1), (Fl b), (Fl r24), (Pt b8 1), (Fl r3), (Fl b), (Fl r29), (Pt b8 2), (Fl r5), (Fl b), Ud, Ud]) rfl rfl (does_move (u := (Fl b)) (ev rfl)) rfl ?_
  refine seqd rfl rfl (does_float (.inr (.inr (.inl rfl))) (ev rfl) (ev rfl)) ?_; rintro _ w37 ⟨r34, rfl, h35, E36⟩
  have X38 := Ext.gr X33 E36
  show wpList _ _ _ _ (fr [(.agg #[(Fl r1), (Fl r3), (Fl r5)]), (Fl b), (Pt b8 0), Ud, (Pt b15 0), (Pt b8 0), (Fl r1), (Fl b), (Fl r24), (Pt b8 1), (Fl r3), (Fl b), (Fl r29), (Pt b8 2), (Fl r5), (Fl b), (Fl r34), Ud]) _
  refine q_is (l' := [(.agg #[(Fl r1), (Fl r3), (Fl r5)]), (Fl b), (Pt b8 0), Ud, (Pt b15 0), (Pt b8 0), (Fl r1), (Fl b), (Fl r24), (Pt b8 1), (Fl r3), (Fl b), (Fl r29), (Pt b8 2), (Fl r5), (Fl b), (Fl r34), (.agg #[(Fl r24), (Fl r29), (Fl r34)])]) rfl rfl (does_build (parts' := [(0, (Fl r24)), (1, (Fl r29)), (2, (Fl r34))]) (cells := #[(Fl r24), (Fl r29), (Fl r34)]) (evp rfl) (by kernel_rfl)) rfl ?_
  refine seqn rfl rfl (does_store (n := 3) (cs := [(Fl 0), (Fl 0), (Fl 0)]) (u := (.agg #[(Fl r24), (Fl r29), (Fl r34)])) (ev rfl) (ev rfl) Try.sizeOf40 rfl (((hB17.ext E26).ext E31).ext E36) (Nat.le_of_ble_eq_true rfl) rfl) ?_; rintro _ w41 ⟨rfl, W39, hB40⟩
  change Blk _ _ [(Fl r24), (Fl r29), (Fl r34)] at hB40
  have X42 := Below.wr X38 W39 g21
  refine wpList_nil (hK23 _ _ ?_)
  refine wp_ret ?_
  refine ret_val (v := (.agg #[(Fl r24), (Fl r29), (Fl r34)])) (res_C rfl (slot rfl) (run_loadAgg (cs := [(Fl r24), (Fl r29), (Fl r34)]) Try.isAgg40 Try.sizeOf40 (Blk.cells hB40) rfl)) X42 ?_
  have x43 : cf .f32 r24 = (vscale A_a (cf .f32 b)).x := by first | with_reducible rfl | (simp only [vscale, h2, h4, h6, h25, h30, h35]; done) | (simp [vscale, h2, h4, h6, h25, h30, h35]; done) | rfl
  have x44 : cf .f32 r29 = (vscale A_a (cf .f32 b)).y := by first | with_reducible rfl | (simp only [vscale, h2, h4, h6, h25, h30, h35]; done) | (simp [vscale, h2, h4, h6, h25, h30, h35]; done) | rfl
  have x45 : cf .f32 r34 = (vscale A_a (cf .f32 b)).z := by first | with_reducible rfl | (simp only [vscale, h2, h4, h6, h25, h30, h35]; done) | (simp [vscale, h2, h4, h6, h25, h30, h35]; done) | rfl
  exact ⟨[(Fl r24), (Fl r29), (Fl r34)], rfl, ⟨r24, r29, r34, rfl, x43, x44, x45⟩⟩

/- impl.BetweenVectors -/
theorem c_impl_BetweenVectors (a : List Value) (A_a : V3) (b : List Value) (A_b : V3) (t_ : Nat) (w : World) (hv_a : RV3 w A_a a) (hv_b : RV3 w A_b b) : Gives Try.prog 92 #[(.agg a.toArray), (.agg b.toArray), (Fl t_)] w (fun v w' => ∃ cs_1 : List Value, v = (.agg cs_1.toArray) ∧ RV3 w (btwV A_a A_b (cf .f32 t_)) cs_1) := by
  obtain ⟨r1, r3, r5, rfl, h2, h4, h6⟩ := hv_a
  obtain ⟨r7, r9, r11, rfl, h8, h10, h12⟩ := hv_b
  refine enter [(.agg #[(Fl r1), (Fl r3), (Fl r5)]), (.agg #[(Fl r7), (Fl r9), (Fl r11)]), (Fl t_), Ud, Ud, Ud, Ud, Ud, Ud, Ud, Ud, Ud, Ud, Ud] Try.func92 rfl Try.ntmps92 rfl ?_
  refine wp_seq_k fun K13 hK13 => ?_
  refine wp_region_lit ?_
  refine seqd rfl rfl (does_box (u := (.agg #[(Fl r1), (Fl r3), (Fl r5)])) (ev rfl)) ?_; rintro _ w18 ⟨b14, rfl, hb15, hB16, E17⟩
  have g19 : w.heap.size ≤ b14 := Nat.le_trans (Below.size (Ext.refl w)) hb15
  change Blk _ _ [(Fl r1), (Fl r3), (Fl r5)] at hB16
  have X20 := Ext.gr (Ext.refl w) E17
  show wpList _ _ _ _ (fr [(.agg #[(Fl r1), (Fl r3), (Fl r5)]), (.agg #[(Fl r7), (Fl r9), (Fl r11)]), (Fl t_), (Pt b14 0), Ud, Ud, Ud, Ud, Ud, Ud, Ud, Ud, Ud, Ud]) _
  refine seqd rfl rfl (does_box (u := (.agg #[(Fl r7), (Fl r9), (Fl r11)])) (ev rfl)) ?_; rintro _ w25 ⟨b21, rfl, hb22, hB23, E24⟩
  have n26 : b14 < b21 := Nat.lt_of_lt_of_le (Blk.lt hB16) hb22
  have g27 : w.heap.size ≤ b21 := Nat.le_trans (Below.size X20) hb22
  change Blk _ _ [(Fl r7), (Fl r9), (Fl r11)] at hB23
  have X28 := Ext.gr X20 E24
  show wpList _ _ _ _ (fr [(.agg #[(Fl r1), (Fl r3), (Fl r5)]), (.agg #[(Fl r7), (Fl r9), (Fl r11)]), (Fl t_), (Pt b14 0), (Pt b21 0), Ud, Ud, Ud, Ud, Ud, Ud, Ud, Ud, Ud]) _
  refine seqd rfl rfl (does_alloc z40) ?_; rintro _ w33 ⟨b29, rfl, hb30, hB31, E32⟩
  have n34 : b14 < b29 := Nat.lt_of_lt_of_le (Blk.lt (hB16.ext E24)) hb30
  have n35 : b21 < b29 := Nat.lt_of_lt_of_le (Blk.lt hB23) hb30
  have g36 : w.heap.size ≤ b29 := Nat.le_trans (Below.size X28) hb30
  change Blk _ _ [(Fl 0), (Fl 0), (Fl 0)] at hB31
  have X37 := Ext.gr X28 E32
  show wpList _ _ _ _ (fr [(.agg #[(Fl r1), (Fl r3), (Fl r5)]), (.agg #[(Fl r7), (Fl r9), (Fl r11)]), (Fl t_), (Pt b14 0), (Pt b21 0), Ud, (Pt b29 0), Ud, Ud, Ud, Ud, Ud, Ud, Ud]) _
  refine wpList_nil (hK13 _ _ ?_)
  refine wp_seq_k fun K38 hK38 => ?_
  refine region_draw (
    [Fact.pure [] (fun v => v = (.agg #[(Fl r1), (Fl r3), (Fl r5)])),
    Fact.pure [] (fun v => v = (.agg #[(Fl r7), (Fl r9), (Fl r11)])),
    Fact.pure [] (fun v => v = (.agg #[(Fl r1), (Fl r3), (Fl r5)])),
    Fact.pure [8, 9] (fun v => ∃ cs_1 : List Value, v = (.agg cs_1.toArray) ∧ RV3 w (vsub A_b A_a) cs_1),
    Fact.pure [] (fun v => v = (Fl t_)),
    Fact.pure [10, 11] (fun v => ∃ cs_1 : List Value, v = (.agg cs_1.toArray) ∧ RV3 w (vscale (vsub A_b A_a) (cf .f32 t_)) cs_1),
    Fact.pure [7, 12] (fun v => ∃ cs_1 : List Value, v = (.agg cs_1.toArray) ∧ RV3 w (vadd A_a (vscale (vsub A_b A_a) (cf .f32 t_))) cs_1)]) mixed (by kernel_rfl) (by intro _ _ d _ _ h; cases d <;> exact h) ?_
  obtain ⟨w39, hw41⟩ : ∃ w', w' = World.drew w33 := ⟨_, rfl⟩; rw [← hw41]; have E40 : Ext w33 w39 := by rw [hw41]; exact Ext.draw _
  clear hw41
  have X42 := Ext.gr X37 E40
  refine RW_d (fun v43 => [(.agg #[(Fl r1), (Fl r3), (Fl r5)]), (.agg #[(Fl r7), (Fl r9), (Fl r11)]), (Fl t_), (Pt b14 0), (Pt b21 0), Ud, (Pt b29 0), v43, Ud, Ud, Ud, Ud, Ud, Ud]) rfl (fun _ => rfl) (fun u hu hF => ?_) (fun v43 => ?_)
  · clear hF
    refine doesG_un rfl ?_
    refine (does_loadAgg (cs := [(Fl r1), (Fl r3), (Fl r5)]) (ev rfl) Try.isAgg40 Try.sizeOf40 (Blk.cells ((((hB16.ext E24).ext E32).ext E40).ext hu)) rfl).mono ?_; rintro _ _ ⟨rfl, rfl⟩
    exact ⟨rfl, Ext.refl _⟩
  refine RW_d (fun v44 => [(.agg #[(Fl r1), (Fl r3), (Fl r5)]), (.agg #[(Fl r7), (Fl r9), (Fl r11)]), (Fl t_), (Pt b14 0), (Pt b21 0), Ud, (Pt b29 0), v43, v44, Ud, Ud, Ud, Ud, Ud]) rfl (fun _ => rfl) (fun u hu hF => ?_) (fun v44 => ?_)
  · clear hF
    refine doesG_un rfl ?_
    refine (does_loadAgg (cs := [(Fl r7), (Fl r9), (Fl r11)]) (ev rfl) Try.isAgg40 Try.sizeOf40 (Blk.cells (((hB23.ext E32).ext E40).ext hu)) rfl).mono ?_; rintro _ _ ⟨rfl, rfl⟩
    exact ⟨rfl, Ext.refl _⟩
  refine RW_d (fun v45 => [(.agg #[(Fl r1), (Fl r3), (Fl r5)]), (.agg #[(Fl r7), (Fl r9), (Fl r11)]), (Fl t_), (Pt b14 0), (Pt b21 0), Ud, (Pt b29 0), v43, v44, v45, Ud, Ud, Ud, Ud]) rfl (fun _ => rfl) (fun u hu hF => ?_) (fun v45 => ?_)
  · clear hF
    refine doesG_un rfl ?_
    refine (does_loadAgg (cs := [(Fl r1), (Fl r3), (Fl r5)]) (ev rfl) Try.isAgg40 Try.sizeOf40 (Blk.cells ((((hB16.ext E24).ext E32).ext E40).ext hu)) rfl).mono ?_; rintro _ _ ⟨rfl, rfl⟩
    exact ⟨rfl, Ext.refl _⟩
  refine RW_d (fun v46 => [(.agg #[(Fl r1), (Fl r3), (Fl r5)]), (.agg #[(Fl r7), (Fl r9), (Fl r11)]), (Fl t_), (Pt b14 0), (Pt b21 0), Ud, (Pt b29 0), v43, v44, v45, v46, Ud, Ud, Ud]) rfl (fun _ => rfl) (fun u hu hF => ?_) (fun v46 => ?_)
  · have h8_ : v44 = (.agg #[(Fl r7), (Fl r9), (Fl r11)]) := hF.1
    have h9_ : v45 = (.agg #[(Fl r1), (Fl r3), (Fl r5)]) := hF.2.1
    clear hF
    refine doesG_un rfl ?_
    obtain rfl := h8_
    obtain rfl := h9_
    refine (does_call (args := #[(.agg #[(Fl r7), (Fl r9), (Fl r11)]), (.agg #[(Fl r1), (Fl r3), (Fl r5)])]) cal98 (evs rfl) (c_impl_LessVectors [(Fl r7), (Fl r9), (Fl r11)] A_b [(Fl r1), (Fl r3), (Fl r5)] A_a _ ⟨r7, r9, r11, rfl, h8, h10, h12⟩ ⟨r1, r3, r5, rfl, h2, h4, h6⟩)).mono ?_; rintro v u' ⟨hx, ⟨csn1, hv, k0⟩⟩
    exact ⟨⟨csn1, hv, k0⟩, hx⟩
  refine RW_d (fun v47 => [(.agg #[(Fl r1), (Fl r3), (Fl r5)]), (.agg #[(Fl r7), (Fl r9), (Fl r11)]), (Fl t_), (Pt b14 0), (Pt b21 0), Ud, (Pt b29 0), v43, v44, v45, v46, v47, Ud, Ud]) rfl (fun _ => rfl) (fun u hu hF => ?_) (fun v47 => ?_)
  · clear hF
    refine doesG_un rfl ?_
    refine (does_move (u := (Fl t_)) (ev rfl)).mono ?_; rintro _ _ ⟨rfl, rfl⟩
    exact ⟨rfl, Ext.refl _⟩
  refine RW_d (fun v48 => [(.agg #[(Fl r1), (Fl r3), (Fl r5)]), (.agg #[(Fl r7), (Fl r9), (Fl r11)]), (Fl t_), (Pt b14 0), (Pt b21 0), Ud, (Pt b29 0), v43, v44, v45, v46, v47, v48, Ud]) rfl (fun _ => rfl) (fun u hu hF => ?_) (fun v48 => ?_)
  · have h10_ : ∃ cs_1 : List Value, v46 = (.agg cs_1.toArray) ∧ RV3 w (vsub A_b A_a) cs_1 := hF.1
    have h11_ : v47 = (Fl t_) := hF.2.1
    clear hF
    refine doesG_un rfl ?_
    obtain ⟨_, rfl, ⟨r10_1, r10_3, r10_5, rfl, h10_2, h10_4, h10_6⟩⟩ := h10_
    obtain rfl := h11_
    refine (does_call (args := #[(.agg #[(Fl r10_1), (Fl r10_3), (Fl r10_5)]), (Fl t_)]) cal109 (evs rfl) (c_impl_ScaleVector [(Fl r10_1), (Fl r10_3), (Fl r10_5)] (vsub A_b A_a) t_ _ ⟨r10_1, r10_3, r10_5, rfl, (by assumption), (by assumption), (by assumption)⟩)).mono ?_; rintro v u' ⟨hx, ⟨csn1, hv, k0⟩⟩
    exact ⟨⟨csn1, hv.trans (by simp only [h10_2, h10_4, h10_6]), (by first | exact k0 | simpa only [h10_2, h10_4, h10_6] using RV3.any (w := w) k0)⟩, hx⟩
  refine RW_d (fun v49 => [(.agg #[(Fl r1), (Fl r3), (Fl r5)]), (.agg #[(Fl r7), (Fl r9), (Fl r11)]), (Fl t_), (Pt b14 0), (Pt b21 0), Ud, (Pt b29 0), v43, v44, v45, v46, v47, v48, v49]) rfl (fun _ => rfl) (fun u hu hF => ?_) (fun v49 => ?_)
  · have h7_ : v43 = (.agg #[(Fl r1), (Fl r3), (Fl r5)]) := hF.1
    have h12_ : ∃ cs_1 : List Value, v48 = (.agg cs_1.toArray) ∧ RV3 w (vscale (vsub A_b A_a) (cf .f32 t_)) cs_1 := hF.2.1
    clear hF
    refine doesG_un rfl ?_
    obtain rfl := h7_
    obtain ⟨_, rfl, ⟨r12_1, r12_3, r12_5, rfl, h12_2, h12_4, h12_6⟩⟩ := h12_
    refine (does_call (args := #[(.agg #[(Fl r1), (Fl r3), (Fl r5)]), (.agg #[(Fl r12_1), (Fl r12_3), (Fl r12_5)])]) cal108 (evs rfl) (c_impl_AddVectors [(Fl r1), (Fl r3), (Fl r5)] A_a [(Fl r12_1), (Fl r12_3), (Fl r12_5)] (vscale (vsub A_b A_a) (cf .f32 t_)) _ ⟨r1, r3, r5, rfl, h2, h4, h6⟩ ⟨r12_1, r12_3, r12_5, rfl, (by assumption), (by assumption), (by assumption)⟩)).mono ?_; rintro v u' ⟨hx, ⟨csn1, hv, k0⟩⟩
    exact ⟨⟨csn1, hv.trans (by simp only [h12_2, h12_4, h12_6]), (by first | exact k0 | simpa only [h12_2, h12_4, h12_6] using RV3.any (w := w) k0)⟩, hx⟩
  refine RW_fin ?_; intro w50 E51 hP52
  obtain ⟨⟨⟨⟨⟨⟨⟨-, -⟩, -⟩, -⟩, -⟩, -⟩, -⟩, q53⟩ := hP52
  have X54 := Ext.gr X42 E51
  have q53 : ∃ cs_1 : List Value, v49 = (.agg cs_1.toArray) ∧ RV3 w (vadd A_a (vscale (vsub A_b A_a) (cf .f32 t_))) cs_1 := q53
  obtain ⟨_, rfl, ⟨r55, r57, r59, rfl, h56, h58, h60⟩⟩ := q53
  show wpList _ _ _ _ (fr [(.agg #[(Fl r1), (Fl r3), (Fl r5)]), (.agg #[(Fl r7), (Fl r9), (Fl r11)]), (Fl t_), (Pt b14 0), (Pt b21 0), Ud, (Pt b29 0), v43, v44, v45, v46, v47, v48, (.agg #[(Fl r55), (Fl r57), (Fl r59)])]) _
  refine seqn rfl rfl (does_store (n := 3) (cs := [(Fl 0), (Fl 0), (Fl 0)]) (u := (.agg #[(Fl r55), (Fl r57), (Fl r59)])) (ev rfl) (ev rfl) Try.sizeOf40 rfl ((hB31.ext E40).ext E51) (Nat.le_of_ble_eq_true rfl) rfl) ?_; rintro _ w63 ⟨rfl, W61, hB62⟩
  change Blk _ _ [(Fl r55), (Fl r57), (Fl r59)] at hB62
  have X64 := Below.wr X54 W61 g36
  refine wpList_nil (hK38 _ _ ?_)
  refine wp_ret ?_
  refine ret_val (v := (.agg #[(Fl r55), (Fl r57), (Fl r59)])) (res_C rfl (slot rfl) (run_loadAgg (cs := [(Fl r55), (Fl r57), (Fl r59)]) Try.isAgg40 Try.sizeOf40 (Blk.cells hB62) rfl)) X64 ?_
  have x65 : cf .f32 r55 = (btwV A_a A_b (cf .f32 t_)).x := by first | with_reducible rfl | (simp only [btwV, h2, h4, h6, h8, h10, h12, h56, h58, h60]; done) | (simp [btwV, h2, h4, h6, h8, h10, h12, h56, h58, h60]; done) | rfl
  have x66 : cf .f32 r57 = (btwV A_a A_b (cf .f32 t_)).y := by first | with_reducible rfl | (simp only [btwV, h2, h4, h6, h8, h10, h12, h56, h58, h60]; done) | (simp [btwV, h2, h4, h6, h8, h10, h12, h56, h58, h60]; done) | rfl
  have x67 : cf .f32 r59 = (btwV A_a A_b (cf .f32 t_)).z := by first | with_reducible rfl | (simp only [btwV, h2, h4, h6, h8, h10, h12, h56, h58, h60]; done) | (simp [btwV, h2, h4, h6, h8, h10, h12, h56, h58, h60]; done) | rfl
  exact ⟨[(Fl r55), (Fl r57), (Fl r59)], rfl, ⟨r55, r57, r59, rfl, x65, x66, x67⟩⟩

/- impl.between -/
theorem c_impl_between (a : List Value) (A_a : KeyT) (b : List Value) (A_b : KeyT) (t_ : Int) (w : World) (hv_a : RKeyT w A_a a) (hv_b : RKeyT w A_b b) : Gives Try.prog 70 #[(.agg a.toArray), (.agg b.toArray), (Iv t_)] w (fun v w' => ∃ cs_1 : List Value, v = (.agg cs_1.toArray) ∧ RV3 w (betK A_a A_b t_) cs_1) := by
  obtain ⟨r1, r3, r5, rfl, h2, h4, h6⟩ := hv_a
  obtain ⟨r7, r9, r11, rfl, h8, h10, h12⟩ := hv_b
  refine enter [(.agg #[(Iv A_a.at_), (Fl r1), (Fl r3), (Fl r5)]), (.agg #[(Iv A_b.at_), (Fl r7), (Fl r9), (Fl r11)]), (Iv t_), Ud, Ud, Ud, Ud, Ud, Ud, Ud, Ud, Ud, Ud, Ud, Ud, Ud, Ud, Ud, Ud, Ud, Ud, Ud, Ud, Ud] Try.func70 rfl Try.ntmps70 rfl ?_
  refine wp_seq_k fun K13 hK13 => ?_
  refine wp_region_lit ?_
  refine seqd rfl rfl (does_box (u := (.agg #[(Iv A_a.at_), (Fl r1), (Fl r3), (Fl r5)])) (ev rfl)) ?_; rintro _ w18 ⟨b14, rfl, hb15, hB16, E17⟩
  have g19 : w.heap.size ≤ b14 := Nat.le_trans (Below.size (Ext.refl w)) hb15
  change Blk _ _ [(Iv A_a.at_), (Fl r1), (Fl r3), (Fl r5)] at hB16
  have X20 := Ext.gr (Ext.refl w) E17
  show wpList _ _ _ _ (fr [_, _, _, _, _, _, _, _, _, _, _, _, _, _, _, _, _, _, _, _, _, _, _, _]) _
  refine seqd rfl rfl (does_box (u := (.agg #[(Iv A_b.at_), (Fl r7), (Fl r9), (Fl r11)])) (ev rfl)) ?_; rintro _ w25 ⟨b21, rfl, hb22, hB23, E24⟩
  have n26 : b14 < b21 := Nat.lt_of_lt_of_le (Blk.lt hB16) hb22
  have g27 : w.heap.size ≤ b21 := Nat.le_trans (Below.size X20) hb22
  change Blk _ _ [(Iv A_b.at_), (Fl r7), (Fl r9), (Fl r11)] at hB23
  have X28 := Ext.gr X20 E24
  show wpList _ _ _ _ (fr [_, _, _, _, _, _, _, _, _, _, _, _, _, _, _, _, _, _, _, _, _, _, _, _]) _
  refine seqd rfl rfl (does_alloc z40) ?_; rintro _ w33 ⟨b29, rfl, hb30, hB31, E32⟩
  have n34 : b14 < b29 := Nat.lt_of_lt_of_le (Blk.lt (hB16.ext E24)) hb30
  have n35 : b21 < b29 := Nat.lt_of_lt_of_le (Blk.lt hB23) hb30
  have g36 : w.heap.size ≤ b29 := Nat.le_trans (Below.size X28) hb30
  change Blk _ _ [(Fl 0), (Fl 0), (Fl 0)] at hB31
  have X37 := Ext.gr X28 E32
  show wpList _ _ _ _ (fr [_, _, _, _, _, _, _, _, _, _, _, _, _, _, _, _, _, _, _, _, _, _, _, _]) _
  refine wpList_nil (hK13 _ _ ?_)
  refine wp_seq_k fun K38 hK38 => ?_
  refine wp_region_lit ?_
  refine q_is rfl rfl (does_fieldAddr (ev rfl) fa119_1) (by dsimp only [List.set]; try rfl) ?_
  refine q_is rfl rfl (does_loadAgg (cs := [(Fl r1), (Fl r3), (Fl r5)]) (ev rfl) Try.isAgg40 Try.sizeOf40 (Cells.sub (Blk.cells ((hB16.ext E24).ext E32)) 1 3) rfl) (by dsimp only [List.set]; try rfl) ?_
  refine q_is rfl rfl (does_fieldAddr (ev rfl) fa119_1) (by dsimp only [List.set]; try rfl) ?_
  refine q_is rfl rfl (does_loadAgg (cs := [(Fl r7), (Fl r9), (Fl r11)]) (ev rfl) Try.isAgg40 Try.sizeOf40 (Cells.sub (Blk.cells (hB23.ext E32)) 1 3) rfl) (by dsimp only [List.set]; try rfl) ?_
  refine q_is rfl rfl (does_move (u := (Iv t_)) (ev rfl)) (by dsimp only [List.set]; try rfl) ?_
  refine q_is rfl rfl (does_fieldAddr (ev rfl) fa119_0) (by dsimp only [List.set]; try rfl) ?_
  refine q_is rfl rfl (does_load (u := (Iv A_a.at_)) (ev rfl) Try.isAgg2 (Cells.at (Blk.cells ((hB16.ext E24).ext E32)) 0 rfl)) (by dsimp only [List.set]; try rfl) ?_
  refine q_is rfl rfl (does_iarith (p := t_) (q := A_a.at_) (r := IntKind.i64.wrap (t_ - A_a.at_)) (ev rfl) (ev rfl) (.inr (.inl ⟨rfl, rfl⟩))) (by dsimp only [List.set]; try rfl) ?_
  refine q_is rfl rfl (does_conv_if (k := .f32) Try.underlying2 Try.underlying38 (ev rfl)) (by dsimp only [List.set]; try rfl) ?_
  refine q_is rfl rfl (does_fieldAddr (ev rfl) fa119_0) (by dsimp only [List.set]; try rfl) ?_
  refine q_is rfl rfl (does_load (u := (Iv A_b.at_)) (ev rfl) Try.isAgg2 (Cells.at (Blk.cells (hB23.ext E32)) 0 rfl)) (by dsimp only [List.set]; try rfl) ?_
  refine q_is rfl rfl (does_fieldAddr (ev rfl) fa119_0) (by dsimp only [List.set]; try rfl) ?_
  refine q_is rfl rfl (does_load (u := (Iv A_a.at_)) (ev rfl) Try.isAgg2 (Cells.at (Blk.cells ((hB16.ext E24).ext E32)) 0 rfl)) (by dsimp only [List.set]; try rfl) ?_
  refine q_is rfl rfl (does_iarith (p := A_b.at_) (q := A_a.at_) (r := IntKind.i64.wrap (A_b.at_ - A_a.at_)) (ev rfl) (ev rfl) (.inr (.inl ⟨rfl, rfl⟩))) (by dsimp only [List.set]; try rfl) ?_
  refine q_is rfl rfl (does_conv_if (k := .f32) Try.underlying2 Try.underlying38 (ev rfl)) (by dsimp only [List.set]; try rfl) ?_
  refine seqd rfl rfl (does_float (.inr (.inr (.inr rfl))) (ev rfl) (ev rfl)) ?_; rintro _ w42 ⟨r39, rfl, h40, E41⟩
  have X43 := Ext.gr X37 E41
  show wpList _ _ _ _ (fr [_, _, _, _, _, _, _, _, _, _, _, _, _, _, _, _, _, _, _, _, _, _, _, _]) _
  refine seqd rfl rfl (does_call (args := #[(.agg #[(Fl r1), (Fl r3), (Fl r5)]), (.agg #[(Fl r7), (Fl r9), (Fl r11)]), (Fl r39)]) cal92 (evs rfl) (c_impl_BetweenVectors [(Fl r1), (Fl r3), (Fl r5)] A_a.place [(Fl r7), (Fl r9), (Fl r11)] A_b.place r39 _ ⟨r1, r3, r5, rfl, h2, h4, h6⟩ ⟨r7, r9, r11, rfl, h8, h10, h12⟩)) ?_; rintro _ w45 ⟨E44, ⟨_, rfl, ⟨r46, r48, r50, rfl, h47, h49, h51⟩⟩⟩
  have X52 := Ext.gr X43 E44
  show wpList _ _ _ _ (fr [_, _, _, _, _, _, _, _, _, _, _, _, _, _, _, _, _, _, _, _, _, _, _, _]) _
  refine seqn rfl rfl (does_store (n := 3) (cs := [(Fl 0), (Fl 0), (Fl 0)]) (u := (.agg #[(Fl r46), (Fl r48), (Fl r50)])) (ev rfl) (ev rfl) Try.sizeOf40 rfl ((hB31.ext E41).ext E44) (Nat.le_of_ble_eq_true rfl) rfl) ?_; rintro _ w55 ⟨rfl, W53, hB54⟩
  change Blk _ _ [(Fl r46), (Fl r48), (Fl r50)] at hB54
  have X56 := Below.wr X52 W53 g36
  refine wpList_nil (hK38 _ _ ?_)
  refine wp_ret ?_
  refine ret_val (v := (.agg #[(Fl r46), (Fl r48), (Fl r50)])) (res_C rfl (slot rfl) (run_loadAgg (cs := [(Fl r46), (Fl r48), (Fl r50)]) Try.isAgg40 Try.sizeOf40 (Blk.cells hB54) rfl)) X56 ?_
  have x57 : cf .f32 r46 = (betK A_a A_b t_).x := by first | with_reducible rfl | (simp only [betK, nrF, h2, h4, h6, h8, h10, h12, h40, h47, h49, h51]; done) | (simp [betK, nrF, h2, h4, h6, h8, h10, h12, h40, h47, h49, h51]; done) | rfl
  have x58 : cf .f32 r48 = (betK A_a A_b t_).y := by first | with_reducible rfl | (simp only [betK, nrF, h2, h4, h6, h8, h10, h12, h40, h47, h49, h51]; done) | (simp [betK, nrF, h2, h4, h6, h8, h10, h12, h40, h47, h49, h51]; done) | rfl
  have x59 : cf .f32 r50 = (betK A_a A_b t_).z := by first | with_reducible rfl | (simp only [betK, nrF, h2, h4, h6, h8, h10, h12, h40, h47, h49, h51]; done) | (simp [betK, nrF, h2, h4, h6, h8, h10, h12, h40, h47, h49, h51]; done) | rfl
  exact ⟨[(Fl r46), (Fl r48), (Fl r50)], rfl, ⟨r46, r48, r50, rfl, x57, x58, x59⟩⟩

/- impl.placeAt -/
theorem c_impl_placeAt (t_ : List Value) (A_t_ : ThingT) (time : Int) (w : World) (hv_t_ : RThingT w A_t_ t_) (hpos : 1 ≤ A_t_.keys.length) : Gives Try.prog 36 #[(.agg t_.toArray), (Iv time)] w (fun v w' => ∃ cs_1 : List Value, v = (.agg cs_1.toArray) ∧ RV3 w (plcF A_t_.keys time) cs_1) := by
  obtain ⟨y2, y4, rfl, h3, h5, hb1⟩ := hv_t_
  have hs8 := h3; have hs8l := Sl.len h3; obtain ⟨p6, q7, rfl⟩ := Sl.shape h3
  have hs11 := h5; have hs11l := Sl.len h5; obtain ⟨p9, q10, rfl⟩ := Sl.shape h5
  refine enter [(.agg #[(.string A_t_.name), (.slice p6 A_t_.shape.nodes.length q7), (.slice p9 A_t_.keys.length q10)]), (Iv time), Ud, Ud, Ud, Ud, Ud, Ud, Ud, Ud, Ud, Ud, Ud, Ud, Ud, Ud, Ud, Ud, Ud, Ud, Ud, Ud, Ud, Ud, Ud, Ud, Ud, Ud, Ud, Ud, Ud, Ud, Ud, Ud, Ud, Ud, Ud, Ud, Ud, Ud, Ud, Ud, Ud, Ud, Ud, Ud, Ud, Ud, Ud, Ud, Ud, Ud, Ud, Ud, Ud, Ud, Ud, Ud, Ud, Ud, Ud] Try.func36 rfl Try.ntmps36 rfl ?_
  refine wp_seq_k fun K12 hK12 => ?_
  refine wp_region_lit ?_
  refine seqd rfl rfl (does_box (u := (.agg #[(.string A_t_.name), (.slice p6 A_t_.shape.nodes.length q7), (.slice p9 A_t_.keys.length q10)])) (ev rfl)) ?_; rintro _ w17 ⟨b13, rfl, hb14, hB15, E16⟩
  have g18 : w.heap.size ≤ b13 := Nat.le_trans (Below.size (Ext.refl w)) hb14
  change Blk _ _ [(.string A_t_.name), (.slice p6 A_t_.shape.nodes.length q7), (.slice p9 A_t_.keys.length q10)] at hB15
  have X19 := Ext.gr (Ext.refl w) E16
  show wpList _ _ _ _ (fr [_, _, _, _, _, _, _, _, _, _, _, _, _, _, _, _, _, _, _, _, _, _, _, _, _, _, _, _, _, _, _, _, _, _, _, _, _, _, _, _, _, _, _, _, _, _, _, _, _, _, _, _, _, _, _, _, _, _, _, _, _]) _
  refine seqd rfl rfl (does_alloc z40) ?_; rintro _ w24 ⟨b20, rfl, hb21, hB22, E23⟩
  have n25 : b13 < b20 := Nat.lt_of_lt_of_le (Blk.lt hB15) hb21
  have g26 : w.heap.size ≤ b20 := Nat.le_trans (Below.size X19) hb21
  change Blk _ _ [(Fl 0), (Fl 0), (Fl 0)] at hB22
  have X27 := Ext.gr X19 E23
  show wpList _ _ _ _ (fr [_, _, _, _, _, _, _, _, _, _, _, _, _, _, _, _, _, _, _, _, _, _, _, _, _, _, _, _, _, _, _, _, _, _, _, _, _, _, _, _, _, _, _, _, _, _, _, _, _, _, _, _, _, _, _, _, _, _, _, _, _]) _
  refine wpList_nil (hK12 _ _ ?_)
  refine wp_seq_k fun K28 hK28 => ?_
  refine wp_seq_k fun K29 hK29 => ?_
  refine wp_region_lit ?_
  refine q_is rfl rfl (does_move (u := (Iv time)) (ev rfl)) (by dsimp only [List.set]; try rfl) ?_
  refine q_is rfl rfl (does_fieldAddr (ev rfl) fa45_2) (by dsimp only [List.set]; try rfl) ?_
  refine q_is rfl rfl (does_load (u := (.slice p9 A_t_.keys.length q10)) (ev rfl) Try.isAgg43 (Cells.at (Blk.cells (hB15.ext E23)) 2 rfl)) (by dsimp only [List.set]; try rfl) ?_
  obtain ⟨el1, hel1⟩ : ∃ e, A_t_.keys[0]? = some e := ⟨_, List.getElem?_eq_getElem (by omega)⟩
  refine seqd rfl rfl (does_indexSl (R := RKeyT) (i := 0) (xs := A_t_.keys) (e := el1) Try.underlying43 Try.sizeOf119 (ev rfl) (ev rfl) (Sl.ext hs11 RKeyT.mono X27) (by omega) hel1) ?_; rintro _ w24 ⟨b30, o31, _, rfl, hc33, ⟨r34, r36, r38, rfl, h35, h37, h39⟩, rfl⟩
  show wpList _ _ _ _ (fr [_, _, _, _, _, _, _, _, _, _, _, _, _, _, _, _, _, _, _, _, _, _, _, _, _, _, _, _, _, _, _, _, _, _, _, _, _, _, _, _, _, _, _, _, _, _, _, _, _, _, _, _, _, _, _, _, _, _, _, _, _]) _
  refine q_is rfl rfl (does_fieldAddr (ev rfl) fa119_0) (by dsimp only [List.set]; try rfl) ?_
  refine q_is rfl rfl (does_load (u := (Iv el1.at_)) (ev rfl) Try.isAgg2 (Cells.at hc33 0 rfl)) (by dsimp only [List.set]; try rfl) ?_
  refine q_is rfl rfl (does_icmp (p := time) (q := el1.at_) (.inr (.inr (.inr (.inl rfl)))) (ev rfl) (ev rfl)) (by dsimp only [List.set]; try rfl) ?_
  refine wpList_nil (hK29 _ _ ?_)
  refine wp_cond_split (t := icmp .leq time el1.at_) (ev rfl) (fun c40 => ?_) (fun c40 => ?_)
  · have c40' := c40
    (try simp only [icmp, Bool.and_eq_true, Bool.or_eq_true, Bool.and_eq_false_iff, Bool.or_eq_false_iff, Bool.not_eq_true', Bool.not_eq_false', decide_eq_true_eq, decide_eq_false_iff_not, beq_iff_eq, bne_iff_ne, beq_eq_false_iff_ne, bne_eq_false_iff_eq] at c40')
    refine wp_seq_k fun K41 hK41 => ?_
    refine wp_region_lit ?_
    refine q_is rfl rfl (does_fieldAddr (ev rfl) fa45_2) (by dsimp only [List.set]; try rfl) ?_
    refine q_is rfl rfl (does_load (u := (.slice p9 A_t_.keys.length q10)) (ev rfl) Try.isAgg43 (Cells.at (Blk.cells (hB15.ext E23)) 2 rfl)) (by dsimp only [List.set]; try rfl) ?_
    refine seqd rfl rfl (does_indexSl (R := RKeyT) (i := 0) (xs := A_t_.keys) (e := el1) Try.underlying43 Try.sizeOf119 (ev rfl) (ev rfl) (Sl.ext hs11 RKeyT.mono X27) (by omega) hel1) ?_; rintro _ w24 ⟨b42, o43, _, rfl, hc45, ⟨r46, r48, r50, rfl, h47, h49, h51⟩, rfl⟩
    show wpList _ _ _ _ (fr [_, _, _, _, _, _, _, _, _, _, _, _, _, _, _, _, _, _, _, _, _, _, _, _, _, _, _, _, _, _, _, _, _, _, _, _, _, _, _, _, _, _, _, _, _, _, _, _, _, _, _, _, _, _, _, _, _, _, _, _, _]) _
    refine q_is rfl rfl (does_fieldAddr (ev rfl) fa119_1) (by dsimp only [List.set]; try rfl) ?_
    refine q_is rfl rfl (does_loadAgg (cs := [(Fl r46), (Fl r48), (Fl r50)]) (ev rfl) Try.isAgg40 Try.sizeOf40 (Cells.sub hc45 1 3) rfl) (by dsimp only [List.set]; try rfl) ?_
    refine seqn rfl rfl (does_store (n := 3) (cs := [(Fl 0), (Fl 0), (Fl 0)]) (u := (.agg #[(Fl r46), (Fl r48), (Fl r50)])) (ev rfl) (ev rfl) Try.sizeOf40 rfl hB22 (Nat.le_of_ble_eq_true rfl) rfl) ?_; rintro _ w54 ⟨rfl, W52, hB53⟩
    change Blk _ _ [(Fl r46), (Fl r48), (Fl r50)] at hB53
    have X55 := Below.wr X27 W52 g26
    refine wpList_nil (hK41 _ _ ?_)
    refine wp_ret ?_
    dsimp only [Exit.then, Exit.inBlock]
    refine ret_val (v := (.agg #[(Fl r46), (Fl r48), (Fl r50)])) (res_C rfl (slot rfl) (run_loadAgg (cs := [(Fl r46), (Fl r48), (Fl r50)]) Try.isAgg40 Try.sizeOf40 (Blk.cells hB53) rfl)) X55 ?_
    try simp only [hel1, h35, h37, h39, h47, h49, h51] at c40
    have x56 : cf .f32 r46 = (plcF A_t_.keys time).x := by first | (rw [plc_0 hel1 (by omega)]; first | assumption | (simp only [hel1, h35, h37, h39, h47, h49, h51, c40]; done)) | (rw [plc_at hel1 (by omega) hlt (by omega) (by assumption) (by omega)]; first | assumption | (simp only [hel1, h35, h37, h39, h47, h49, h51, c40]; done)) | (rw [plc_bt hel1 (by omega) hlt (by omega) (by assumption) (by omega) (by omega) (by assumption)]; first | assumption | (simp only [hel1, h35, h37, h39, h47, h49, h51, c40]; done)) | (rw [plc_end hel1 (by omega) hlt (by omega) (by assumption)]; first | assumption | (simp only [hel1, h35, h37, h39, h47, h49, h51, c40]; done))
    have x57 : cf .f32 r48 = (plcF A_t_.keys time).y := by first | (rw [plc_0 hel1 (by omega)]; first | assumption | (simp only [hel1, h35, h37, h39, h47, h49, h51, c40]; done)) | (rw [plc_at hel1 (by omega) hlt (by omega) (by assumption) (by omega)]; first | assumption | (simp only [hel1, h35, h37, h39, h47, h49, h51, c40]; done)) | (rw [plc_bt hel1 (by omega) hlt (by omega) (by assumption) (by omega) (by omega) (by assumption)]; first | assumption | (simp only [hel1, h35, h37, h39, h47, h49, h51, c40]; done)) | (rw [plc_end hel1 (by omega) hlt (by omega) (by assumption)]; first | assumption | (simp only [hel1, h35, h37, h39, h47, h49, h51, c40]; done))
    have x58 : cf .f32 r50 = (plcF A_t_.keys time).z := by first | (rw [plc_0 hel1 (by omega)]; first | assumption | (simp only [hel1, h35, h37, h39, h47, h49, h51, c40]; done)) | (rw [plc_at hel1 (by omega) hlt (by omega) (by assumption) (by omega)]; first | assumption | (simp only [hel1, h35, h37, h39, h47, h49, h51, c40]; done)) | (rw [plc_bt hel1 (by omega) hlt (by omega) (by assumption) (by omega) (by omega) (by assumption)]; first | assumption | (simp only [hel1, h35, h37, h39, h47, h49, h51, c40]; done)) | (rw [plc_end hel1 (by omega) hlt (by omega) (by assumption)]; first | assumption | (simp only [hel1, h35, h37, h39, h47, h49, h51, c40]; done))
    exact ⟨[(Fl r46), (Fl r48), (Fl r50)], rfl, ⟨r46, r48, r50, rfl, x56, x57, x58⟩⟩
  have c40' := c40
  (try simp only [icmp, Bool.and_eq_true, Bool.or_eq_true, Bool.and_eq_false_iff, Bool.or_eq_false_iff, Bool.not_eq_true', Bool.not_eq_false', decide_eq_true_eq, decide_eq_false_iff_not, beq_iff_eq, bne_iff_ne, beq_eq_false_iff_ne, bne_eq_false_iff_eq] at c40')
  refine wp_skip (hK28 _ _ ?_)
  refine wp_seq_k fun K59 hK59 => ?_
  refine wp_seq_k fun K60 hK60 => ?_
  refine wp_region_lit ?_
  refine q_is rfl rfl (does_assign (u := (Iv 1)) (ev rfl)) (by dsimp only [List.set]; try rfl) ?_
  refine wpList_nil (hK60 _ _ ?_)
  refine wp_block ?_
  refine loop_ghost (σ := Nat) (fun i a w' => ∃ u61 : Nat → Value, a = fr [(.agg #[(.string A_t_.name), (.slice p6 A_t_.shape.nodes.length q7), (.slice p9 A_t_.keys.length q10)]), (Iv time), (Pt b13 0), Ud, (Pt b20 0), (Iv (i : Int)), (u61 6), (Iv time), (Pt b13 2), (.slice p9 A_t_.keys.length q10), (Pt b30 o31), (Pt b30 o31), (Iv el1.at_), (Bo (icmp .leq time el1.at_)), Ud, Ud, Ud, Ud, Ud, (u61 19), (u61 20), (u61 21), (u61 22), (u61 23), (u61 24), (u61 25), (u61 26), (u61 27), (u61 28), (u61 29), (u61 30), (u61 31), (u61 32), (u61 33), (u61 34), (u61 35), (u61 36), (u61 37), (u61 38), (u61 39), (u61 40), (u61 41), (u61 42), (u61 43), (u61 44), (u61 45), (u61 46), (u61 47), (u61 48), (u61 49), (u61 50), (u61 51), Ud, Ud, Ud, Ud, Ud, Ud, Ud, Ud, Ud] ∧ Ext w24 w' ∧ (1 ≤ i ∧ i ≤ A_t_.keys.length ∧ LateTo A_t_.keys time i)) (fun i => A_t_.keys.length - i) 1 ?_ ?_
  · refine ⟨fun t => (([(.agg #[(.string A_t_.name), (.slice p6 A_t_.shape.nodes.length q7), (.slice p9 A_t_.keys.length q10)]), (Iv time), (Pt b13 0), Ud, (Pt b20 0), (Iv 1), Ud, (Iv time), (Pt b13 2), (.slice p9 A_t_.keys.length q10), (Pt b30 o31), (Pt b30 o31), (Iv el1.at_), (Bo (icmp .leq time el1.at_)), Ud, Ud, Ud, Ud, Ud, Ud, Ud, Ud, Ud, Ud, Ud, Ud, Ud, Ud, Ud, Ud, Ud, Ud, Ud, Ud, Ud, Ud, Ud, Ud, Ud, Ud, Ud, Ud, Ud, Ud, Ud, Ud, Ud, Ud, Ud, Ud, Ud, Ud, Ud, Ud, Ud, Ud, Ud, Ud, Ud, Ud, Ud] : List Value)[t]?).getD undef, rfl, Ext.refl _, ?_⟩
    exact ⟨Nat.le_refl _, hpos, LateTo.one⟩
  · rintro i a w62 ⟨u61, rfl, E63, ⟨hi1, hi2, hlt⟩⟩
    have X65 := Ext.gr X27 E63
    refine wp_seq_k fun K66 hK66 => ?_
    refine wp_seq_k fun K67 hK67 => ?_
    refine wp_region_lit ?_
    refine q_is rfl rfl (does_move (u := (Iv (i : Int))) (ev rfl)) (by dsimp only [List.set]; try rfl) ?_
    refine q_is rfl rfl (does_fieldAddr (ev rfl) fa45_2) (by dsimp only [List.set]; try rfl) ?_
    refine q_is rfl rfl (does_load (u := (.slice p9 A_t_.keys.length q10)) (ev rfl) Try.isAgg43 (Cells.at (Blk.cells ((hB15.ext E23).ext E63)) 2 rfl)) (by dsimp only [List.set]; try rfl) ?_
    refine q_is rfl rfl (does_len_slice Try.underlying43 (ev rfl)) (by dsimp only [List.set]; try rfl) ?_
    refine q_is rfl rfl (does_icmp (p := (i : Int)) (q := (A_t_.keys.length : Int)) (.inr (.inr (.inl rfl))) (ev rfl) (ev rfl)) (by dsimp only [List.set]; try rfl) ?_
    refine wpList_nil (hK67 _ _ ?_)
    refine wp_cond_split (t := icmp .lss (i : Int) (A_t_.keys.length : Int)) (ev rfl) (fun c68 => ?_) (fun c68 => ?_)
    · have c68' := c68
      (try simp only [icmp, Bool.and_eq_true, Bool.or_eq_true, Bool.and_eq_false_iff, Bool.or_eq_false_iff, Bool.not_eq_true', Bool.not_eq_false', decide_eq_true_eq, decide_eq_false_iff_not, beq_iff_eq, bne_iff_ne, beq_eq_false_iff_ne, bne_eq_false_iff_eq] at c68')
      refine wp_skip (hK66 _ _ ?_)
      refine wp_seq_k fun K69 hK69 => ?_
      refine wp_block ?_
      refine wp_seq_k fun K70 hK70 => ?_
      refine wp_region_lit ?_
      refine q_is rfl rfl (does_fieldAddr (ev rfl) fa45_2) (by dsimp only [List.set]; try rfl) ?_
      refine q_is rfl rfl (does_load (u := (.slice p9 A_t_.keys.length q10)) (ev rfl) Try.isAgg43 (Cells.at (Blk.cells ((hB15.ext E23).ext E63)) 2 rfl)) (by dsimp only [List.set]; try rfl) ?_
      refine q_is rfl rfl (does_move (u := (Iv (i : Int))) (ev rfl)) (by dsimp only [List.set]; try rfl) ?_
      obtain ⟨el2, hel2⟩ : ∃ e, A_t_.keys[i]? = some e := ⟨_, List.getElem?_eq_getElem (by omega)⟩
      refine seqd rfl rfl (does_indexSl (R := RKeyT) (i := (i : Int)) (xs := A_t_.keys) (e := el2) Try.underlying43 Try.sizeOf119 (ev rfl) (ev rfl) (Sl.ext hs11 RKeyT.mono X65) (by omega) hel2) ?_; rintro _ w62 ⟨b71, o72, _, rfl, hc74, ⟨r75, r77, r79, rfl, h76, h78, h80⟩, rfl⟩
      show wpList _ _ _ _ (fr [_, _, _, _, _, _, _, _, _, _, _, _, _, _, _, _, _, _, _, _, _, _, _, _, _, _, _, _, _, _, _, _, _, _, _, _, _, _, _, _, _, _, _, _, _, _, _, _, _, _, _, _, _, _, _, _, _, _, _, _, _]) _
      refine q_is rfl rfl (does_loadAgg (cs := [(Iv el2.at_), (Fl r75), (Fl r77), (Fl r79)]) (ev rfl) Try.isAgg119 Try.sizeOf119 hc74 rfl) (by dsimp only [List.set]; try rfl) ?_
      refine seqd rfl rfl (does_alloc z119) ?_; rintro _ w85 ⟨b81, rfl, hb82, hB83, E84⟩
      have n86 : b13 < b81 := Nat.lt_of_lt_of_le (Blk.lt ((hB15.ext E23).ext E63)) hb82
      have n87 : b20 < b81 := Nat.lt_of_lt_of_le (Blk.lt (hB22.ext E63)) hb82
      have n88 : b30 < b81 := Nat.lt_of_lt_of_le (cell_lt (Cells.at (hc33.ext E63) 0 rfl)) hb82
      have n89 : b71 < b81 := Nat.lt_of_lt_of_le (cell_lt (Cells.at hc74 0 rfl)) hb82
      have g90 : w.heap.size ≤ b81 := Nat.le_trans (Below.size X65) hb82
      change Blk _ _ [(Iv 0), (Fl 0), (Fl 0), (Fl 0)] at hB83
      have X91 := Ext.gr X65 E84
      show wpList _ _ _ _ (fr [_, _, _, _, _, _, _, _, _, _, _, _, _, _, _, _, _, _, _, _, _, _, _, _, _, _, _, _, _, _, _, _, _, _, _, _, _, _, _, _, _, _, _, _, _, _, _, _, _, _, _, _, _, _, _, _, _, _, _, _, _]) _
      refine seqn rfl rfl (does_store (n := 4) (cs := [(Iv 0), (Fl 0), (Fl 0), (Fl 0)]) (u := (.agg #[(Iv el2.at_), (Fl r75), (Fl r77), (Fl r79)])) (ev rfl) (ev rfl) Try.sizeOf119 rfl hB83 (Nat.le_of_ble_eq_true rfl) rfl) ?_; rintro _ w94 ⟨rfl, W92, hB93⟩
      change Blk _ _ [(Iv el2.at_), (Fl r75), (Fl r77), (Fl r79)] at hB93
      have X95 := Below.wr X91 W92 g90
      refine wpList_nil (hK70 _ _ ?_)
      refine wp_block ?_
      refine wp_seq_k fun K96 hK96 => ?_
      refine wp_region_lit ?_
      refine q_is rfl rfl (does_move (u := (Iv time)) (ev rfl)) (by dsimp only [List.set]; try rfl) ?_
      refine q_is rfl rfl (does_fieldAddr (ev rfl) fa119_0) (by dsimp only [List.set]; try rfl) ?_
      refine q_is rfl rfl (does_load (u := (Iv el2.at_)) (ev rfl) Try.isAgg2 (Cells.at (Blk.cells hB93) 0 rfl)) (by dsimp only [List.set]; try rfl) ?_
      refine q_is rfl rfl (does_icmp (p := time) (q := el2.at_) (.inl rfl) (ev rfl) (ev rfl)) (by dsimp only [List.set]; try rfl) ?_
      refine q_is rfl rfl (does_assign (u := (Bo (icmp .eql time el2.at_))) (ev rfl)) (by dsimp only [List.set]; try rfl) ?_
      refine wpList_nil (hK96 _ _ ?_)
      refine wp_cond_split (t := icmp .eql time el2.at_) (ev rfl) (fun c97 => ?_) (fun c97 => ?_)
      · have c97' := c97
        (try simp only [icmp, Bool.and_eq_true, Bool.or_eq_true, Bool.and_eq_false_iff, Bool.or_eq_false_iff, Bool.not_eq_true', Bool.not_eq_false', decide_eq_true_eq, decide_eq_false_iff_not, beq_iff_eq, bne_iff_ne, beq_eq_false_iff_ne, bne_eq_false_iff_eq] at c97')
        refine wp_seq_k fun K98 hK98 => ?_
        refine wp_region_lit ?_
        refine q_is rfl rfl (does_fieldAddr (ev rfl) fa119_1) (by dsimp only [List.set]; try rfl) ?_
        refine q_is rfl rfl (does_loadAgg (cs := [(Fl r75), (Fl r77), (Fl r79)]) (ev rfl) Try.isAgg40 Try.sizeOf40 (Cells.sub (Blk.cells hB93) 1 3) rfl) (by dsimp only [List.set]; try rfl) ?_
        refine seqn rfl rfl (does_store (n := 3) (cs := [(Fl 0), (Fl 0), (Fl 0)]) (u := (.agg #[(Fl r75), (Fl r77), (Fl r79)])) (ev rfl) (ev rfl) Try.sizeOf40 rfl (((hB22.ext E63).ext E84).wr W92 (Nat.ne_of_lt n87)) (Nat.le_of_ble_eq_true rfl) rfl) ?_; rintro _ w101 ⟨rfl, W99, hB100⟩
        change Blk _ _ [(Fl r75), (Fl r77), (Fl r79)] at hB100
        have X102 := Below.wr X95 W99 g26
        refine wpList_nil (hK98 _ _ ?_)
        refine wp_ret ?_
        dsimp only [Exit.then, Exit.inBlock]
        refine ret_val (v := (.agg #[(Fl r75), (Fl r77), (Fl r79)])) (res_C rfl (slot rfl) (run_loadAgg (cs := [(Fl r75), (Fl r77), (Fl r79)]) Try.isAgg40 Try.sizeOf40 (Blk.cells hB100) rfl)) X102 ?_
        try simp only [hel1, h35, h37, h39, hel2, h76, h78, h80] at c40 c68 c97
        have x103 : cf .f32 r75 = (plcF A_t_.keys time).x := by first | (rw [plc_0 hel1 (by omega)]; first | assumption | (simp only [hel1, h35, h37, h39, hel2, h76, h78, h80, c40, c68, c97]; done)) | (rw [plc_at hel1 (by omega) hlt (by omega) (by assumption) (by omega)]; first | assumption | (simp only [hel1, h35, h37, h39, hel2, h76, h78, h80, c40, c68, c97]; done)) | (rw [plc_bt hel1 (by omega) hlt (by omega) (by assumption) (by omega) (by omega) (by assumption)]; first | assumption | (simp only [hel1, h35, h37, h39, hel2, h76, h78, h80, c40, c68, c97]; done)) | (rw [plc_end hel1 (by omega) hlt (by omega) (by assumption)]; first | assumption | (simp only [hel1, h35, h37, h39, hel2, h76, h78, h80, c40, c68, c97]; done))
        have x104 : cf .f32 r77 = (plcF A_t_.keys time).y := by first | (rw [plc_0 hel1 (by omega)]; first | assumption | (simp only [hel1, h35, h37, h39, hel2, h76, h78, h80, c40, c68, c97]; done)) | (rw [plc_at hel1 (by omega) hlt (by omega) (by assumption) (by omega)]; first | assumption | (simp only [hel1, h35, h37, h39, hel2, h76, h78, h80, c40, c68, c97]; done)) | (rw [plc_bt hel1 (by omega) hlt (by omega) (by assumption) (by omega) (by omega) (by assumption)]; first | assumption | (simp only [hel1, h35, h37, h39, hel2, h76, h78, h80, c40, c68, c97]; done)) | (rw [plc_end hel1 (by omega) hlt (by omega) (by assumption)]; first | assumption | (simp only [hel1, h35, h37, h39, hel2, h76, h78, h80, c40, c68, c97]; done))
        have x105 : cf .f32 r79 = (plcF A_t_.keys time).z := by first | (rw [plc_0 hel1 (by omega)]; first | assumption | (simp only [hel1, h35, h37, h39, hel2, h76, h78, h80, c40, c68, c97]; done)) | (rw [plc_at hel1 (by omega) hlt (by omega) (by assumption) (by omega)]; first | assumption | (simp only [hel1, h35, h37, h39, hel2, h76, h78, h80, c40, c68, c97]; done)) | (rw [plc_bt hel1 (by omega) hlt (by omega) (by assumption) (by omega) (by omega) (by assumption)]; first | assumption | (simp only [hel1, h35, h37, h39, hel2, h76, h78, h80, c40, c68, c97]; done)) | (rw [plc_end hel1 (by omega) hlt (by omega) (by assumption)]; first | assumption | (simp only [hel1, h35, h37, h39, hel2, h76, h78, h80, c40, c68, c97]; done))
        exact ⟨[(Fl r75), (Fl r77), (Fl r79)], rfl, ⟨r75, r77, r79, rfl, x103, x104, x105⟩⟩
      have c97' := c97
      (try simp only [icmp, Bool.and_eq_true, Bool.or_eq_true, Bool.and_eq_false_iff, Bool.or_eq_false_iff, Bool.not_eq_true', Bool.not_eq_false', decide_eq_true_eq, decide_eq_false_iff_not, beq_iff_eq, bne_iff_ne, beq_eq_false_iff_ne, bne_eq_false_iff_eq] at c97')
      refine wp_seq_k fun K106 hK106 => ?_
      refine wp_region_lit ?_
      refine q_is rfl rfl (does_move (u := (Iv time)) (ev rfl)) (by dsimp only [List.set]; try rfl) ?_
      refine q_is rfl rfl (does_fieldAddr (ev rfl) fa119_0) (by dsimp only [List.set]; try rfl) ?_
      refine q_is rfl rfl (does_load (u := (Iv el2.at_)) (ev rfl) Try.isAgg2 (Cells.at (Blk.cells hB93) 0 rfl)) (by dsimp only [List.set]; try rfl) ?_
      refine q_is rfl rfl (does_icmp (p := time) (q := el2.at_) (.inr (.inr (.inl rfl))) (ev rfl) (ev rfl)) (by dsimp only [List.set]; try rfl) ?_
      refine q_is rfl rfl (does_assign (u := (Bo (icmp .lss time el2.at_))) (ev rfl)) (by dsimp only [List.set]; try rfl) ?_
      refine wpList_nil (hK106 _ _ ?_)
      refine wp_cond_split (t := icmp .lss time el2.at_) (ev rfl) (fun c107 => ?_) (fun c107 => ?_)
      · have c107' := c107
        (try simp only [icmp, Bool.and_eq_true, Bool.or_eq_true, Bool.and_eq_false_iff, Bool.or_eq_false_iff, Bool.not_eq_true', Bool.not_eq_false', decide_eq_true_eq, decide_eq_false_iff_not, beq_iff_eq, bne_iff_ne, beq_eq_false_iff_ne, bne_eq_false_iff_eq] at c107')
        refine wp_seq_k fun K108 hK108 => ?_
        obtain ⟨el3, hel3⟩ : ∃ e, A_t_.keys[((i : Int) - 1).toNat]? = some e := ⟨_, List.getElem?_eq_getElem (by omega)⟩
        refine region_draw (
          [Fact.pure [] (fun v => v = (Pt b13 2)),
    Fact.pure [43] (fun v => v = (.slice p9 A_t_.keys.length q10)),
    Fact.pure [] (fun v => v = (Iv (i : Int))),
    Fact.pure [45] (fun v => v = (Iv ((i : Int) - 1))),
    Fact.mem [44, 46] (fun v w' => PtrR RKeyT w' v el3) (by intro v w1 w2 hx h; exact h.ext RKeyT.mono hx),
    Fact.pure [47] (fun v => ∃ cs_1 : List Value, v = (.agg cs_1.toArray) ∧ RKeyT w el3 cs_1),
    Fact.pure [] (fun v => v = (.agg #[(Iv el2.at_), (Fl r75), (Fl r77), (Fl r79)])),
    Fact.pure [] (fun v => v = (Iv time)),
    Fact.pure [48, 49, 50] (fun v => ∃ cs_1 : List Value, v = (.agg cs_1.toArray) ∧ RV3 w (betK el3 el2 time) cs_1)]) mixed (by kernel_rfl) (by intro _ _ d _ _ h; cases d <;> exact h) ?_
        obtain ⟨w109, hw111⟩ : ∃ w', w' = World.drew w94 := ⟨_, rfl⟩; rw [← hw111]; have E110 : Ext w94 w109 := by rw [hw111]; exact Ext.draw _
        clear hw111
        have X112 := Ext.gr X95 E110
        refine RW_d _ rfl (fun v => by dsimp only [List.set]; try rfl) (fun u hu hF => ?_) (fun v113 => ?_)
        · clear hF
          refine doesG_un rfl ?_
          refine (does_fieldAddr (ev rfl) fa45_2).mono ?_; rintro _ _ ⟨rfl, rfl⟩
          exact ⟨rfl, Ext.refl _⟩
        refine RW_d _ rfl (fun v => by dsimp only [List.set]; try rfl) (fun u hu hF => ?_) (fun v114 => ?_)
        · have h43_ : v113 = (Pt b13 2) := hF.1
          clear hF
          refine doesG_un rfl ?_
          obtain rfl := h43_
          refine (does_load (u := (.slice p9 A_t_.keys.length q10)) (ev rfl) Try.isAgg43 (Cells.at (Blk.cells ((((((hB15.ext E23).ext E63).ext E84).wr W92 (Nat.ne_of_lt n86)).ext E110).ext hu)) 2 rfl)).mono ?_; rintro _ _ ⟨rfl, rfl⟩
          exact ⟨rfl, Ext.refl _⟩
        refine RW_d _ rfl (fun v => by dsimp only [List.set]; try rfl) (fun u hu hF => ?_) (fun v115 => ?_)
        · clear hF
          refine doesG_un rfl ?_
          refine (does_move (u := (Iv (i : Int))) (ev rfl)).mono ?_; rintro _ _ ⟨rfl, rfl⟩
          exact ⟨rfl, Ext.refl _⟩
        refine RW_d _ rfl (fun v => by dsimp only [List.set]; try rfl) (fun u hu hF => ?_) (fun v116 => ?_)
        · have h45_ : v115 = (Iv (i : Int)) := hF.1
          clear hF
          refine doesG_un rfl ?_
          obtain rfl := h45_
          refine (does_iarith (p := (i : Int)) (q := 1) (r := (i : Int) - 1) (ev rfl) (ev rfl) (.inr (.inl ⟨rfl, (in_i64 (by omega) (by omega)).symm⟩))).mono ?_; rintro _ _ ⟨rfl, rfl⟩
          exact ⟨rfl, Ext.refl _⟩
        refine RW_d _ rfl (fun v => by dsimp only [List.set]; try rfl) (fun u hu hF => ?_) (fun v117 => ?_)
        · have h44_ : v114 = (.slice p9 A_t_.keys.length q10) := hF.1
          have h46_ : v116 = (Iv ((i : Int) - 1)) := hF.2.1
          clear hF
          refine doesG_un rfl ?_
          obtain rfl := h44_
          obtain rfl := h46_
          refine (does_indexSl (R := RKeyT) (i := (i : Int) - 1) (xs := A_t_.keys) (e := el3) Try.underlying43 Try.sizeOf119 (ev rfl) (ev rfl) (Sl.ext (Sl.ext hs11 RKeyT.mono (Ext.gr X95 E110)) RKeyT.mono hu) (by omega) hel3).mono ?_; rintro v u' ⟨b, of, cs, hv, hc, hR, hu'⟩; subst hu'
          exact ⟨⟨b, of, cs, hv, hc, hR⟩, Ext.refl _⟩
        refine RW_d _ rfl (fun v => by dsimp only [List.set]; try rfl) (fun u hu hF => ?_) (fun v118 => ?_)
        · have h47_ : PtrR RKeyT u v117 el3 := hF.1
          clear hF
          refine doesG_un rfl ?_
          obtain ⟨b47_, o47_, _, rfl, hc47_, ⟨r47_1, r47_3, r47_5, rfl, h47_2, h47_4, h47_6⟩⟩ := h47_
          refine (does_loadAgg (cs := [(Iv el3.at_), (Fl r47_1), (Fl r47_3), (Fl r47_5)]) (ev rfl) Try.isAgg119 Try.sizeOf119 hc47_ rfl).mono ?_; rintro _ _ ⟨rfl, rfl⟩
          exact ⟨⟨[(Iv el3.at_), (Fl r47_1), (Fl r47_3), (Fl r47_5)], rfl, ⟨r47_1, r47_3, r47_5, rfl, (by first | assumption | rfl), (by first | assumption | rfl), (by first | assumption | rfl)⟩⟩, Ext.refl _⟩
        refine RW_d _ rfl (fun v => by dsimp only [List.set]; try rfl) (fun u hu hF => ?_) (fun v119 => ?_)
        · clear hF
          refine doesG_un rfl ?_
          refine (does_loadAgg (cs := [(Iv el2.at_), (Fl r75), (Fl r77), (Fl r79)]) (ev rfl) Try.isAgg119 Try.sizeOf119 (Blk.cells ((hB93.ext E110).ext hu)) rfl).mono ?_; rintro _ _ ⟨rfl, rfl⟩
          exact ⟨rfl, Ext.refl _⟩
        refine RW_d _ rfl (fun v => by dsimp only [List.set]; try rfl) (fun u hu hF => ?_) (fun v120 => ?_)
        · clear hF
          refine doesG_un rfl ?_
          refine (does_move (u := (Iv time)) (ev rfl)).mono ?_; rintro _ _ ⟨rfl, rfl⟩
          exact ⟨rfl, Ext.refl _⟩
        refine RW_d _ rfl (fun v => by dsimp only [List.set]; try rfl) (fun u hu hF => ?_) (fun v121 => ?_)
        · have h48_ : ∃ cs_1 : List Value, v118 = (.agg cs_1.toArray) ∧ RKeyT w el3 cs_1 := hF.1
          have h49_ : v119 = (.agg #[(Iv el2.at_), (Fl r75), (Fl r77), (Fl r79)]) := hF.2.1
          have h50_ : v120 = (Iv time) := hF.2.2.1
          clear hF
          refine doesG_un rfl ?_
          obtain ⟨_, rfl, ⟨r48_1, r48_3, r48_5, rfl, h48_2, h48_4, h48_6⟩⟩ := h48_
          obtain rfl := h49_
          obtain rfl := h50_
          refine (does_call (args := #[(.agg #[(Iv el3.at_), (Fl r48_1), (Fl r48_3), (Fl r48_5)]), (.agg #[(Iv el2.at_), (Fl r75), (Fl r77), (Fl r79)]), (Iv time)]) cal70 (evs rfl) (c_impl_between [(Iv el3.at_), (Fl r48_1), (Fl r48_3), (Fl r48_5)] el3 [(Iv el2.at_), (Fl r75), (Fl r77), (Fl r79)] el2 time _ ⟨r48_1, r48_3, r48_5, rfl, (by assumption), (by assumption), (by assumption)⟩ ⟨r75, r77, r79, rfl, h76, h78, h80⟩)).mono ?_; rintro v u' ⟨hx, ⟨csn1, hv, k0⟩⟩
          exact ⟨⟨csn1, hv.trans (by simp only [h48_2, h48_4, h48_6]), (by first | exact k0 | simpa only [h48_2, h48_4, h48_6] using RV3.any (w := w) k0)⟩, hx⟩
        refine RW_fin ?_; intro w122 E123 hP124
        obtain ⟨⟨⟨⟨⟨⟨⟨⟨⟨-, -⟩, -⟩, -⟩, -⟩, -⟩, -⟩, -⟩, -⟩, q125⟩ := hP124
        have X126 := Ext.gr X112 E123
        have q125 : ∃ cs_1 : List Value, v121 = (.agg cs_1.toArray) ∧ RV3 w (betK el3 el2 time) cs_1 := q125
        obtain ⟨_, rfl, ⟨r127, r129, r131, rfl, h128, h130, h132⟩⟩ := q125
        show wpList _ _ _ _ (fr [_, _, _, _, _, _, _, _, _, _, _, _, _, _, _, _, _, _, _, _, _, _, _, _, _, _, _, _, _, _, _, _, _, _, _, _, _, _, _, _, _, _, _, _, _, _, _, _, _, _, _, _, _, _, _, _, _, _, _, _, _]) _
        refine seqn rfl rfl (does_store (n := 3) (cs := [(Fl 0), (Fl 0), (Fl 0)]) (u := (.agg #[(Fl r127), (Fl r129), (Fl r131)])) (ev rfl) (ev rfl) Try.sizeOf40 rfl (((((hB22.ext E63).ext E84).wr W92 (Nat.ne_of_lt n87)).ext E110).ext E123) (Nat.le_of_ble_eq_true rfl) rfl) ?_; rintro _ w135 ⟨rfl, W133, hB134⟩
        change Blk _ _ [(Fl r127), (Fl r129), (Fl r131)] at hB134
        have X136 := Below.wr X126 W133 g26
        refine wpList_nil (hK108 _ _ ?_)
        refine wp_ret ?_
        dsimp only [Exit.then, Exit.inBlock]
        refine ret_val (v := (.agg #[(Fl r127), (Fl r129), (Fl r131)])) (res_C rfl (slot rfl) (run_loadAgg (cs := [(Fl r127), (Fl r129), (Fl r131)]) Try.isAgg40 Try.sizeOf40 (Blk.cells hB134) rfl)) X136 ?_
        try simp only [hel1, h35, h37, h39, hel2, h76, h78, h80, hel3, h128, h130, h132] at c40 c68 c97 c107
        have x137 : cf .f32 r127 = (plcF A_t_.keys time).x := by first | (rw [plc_0 hel1 (by omega)]; first | assumption | (simp only [hel1, h35, h37, h39, hel2, h76, h78, h80, hel3, h128, h130, h132, c40, c68, c97, c107]; done)) | (rw [plc_at hel1 (by omega) hlt (by omega) (by assumption) (by omega)]; first | assumption | (simp only [hel1, h35, h37, h39, hel2, h76, h78, h80, hel3, h128, h130, h132, c40, c68, c97, c107]; done)) | (rw [plc_bt hel1 (by omega) hlt (by omega) (by assumption) (by omega) (by omega) (by assumption)]; first | assumption | (simp only [hel1, h35, h37, h39, hel2, h76, h78, h80, hel3, h128, h130, h132, c40, c68, c97, c107]; done)) | (rw [plc_end hel1 (by omega) hlt (by omega) (by assumption)]; first | assumption | (simp only [hel1, h35, h37, h39, hel2, h76, h78, h80, hel3, h128, h130, h132, c40, c68, c97, c107]; done))
        have x138 : cf .f32 r129 = (plcF A_t_.keys time).y := by first | (rw [plc_0 hel1 (by omega)]; first | assumption | (simp only [hel1, h35, h37, h39, hel2, h76, h78, h80, hel3, h128, h130, h132, c40, c68, c97, c107]; done)) | (rw [plc_at hel1 (by omega) hlt (by omega) (by assumption) (by omega)]; first | assumption | (simp only [hel1, h35, h37, h39, hel2, h76, h78, h80, hel3, h128, h130, h132, c40, c68, c97, c107]; done)) | (rw [plc_bt hel1 (by omega) hlt (by omega) (by assumption) (by omega) (by omega) (by assumption)]; first | assumption | (simp only [hel1, h35, h37, h39, hel2, h76, h78, h80, hel3, h128, h130, h132, c40, c68, c97, c107]; done)) | (rw [plc_end hel1 (by omega) hlt (by omega) (by assumption)]; first | assumption | (simp only [hel1, h35, h37, h39, hel2, h76, h78, h80, hel3, h128, h130, h132, c40, c68, c97, c107]; done))
        have x139 : cf .f32 r131 = (plcF A_t_.keys time).z := by first | (rw [plc_0 hel1 (by omega)]; first | assumption | (simp only [hel1, h35, h37, h39, hel2, h76, h78, h80, hel3, h128, h130, h132, c40, c68, c97, c107]; done)) | (rw [plc_at hel1 (by omega) hlt (by omega) (by assumption) (by omega)]; first | assumption | (simp only [hel1, h35, h37, h39, hel2, h76, h78, h80, hel3, h128, h130, h132, c40, c68, c97, c107]; done)) | (rw [plc_bt hel1 (by omega) hlt (by omega) (by assumption) (by omega) (by omega) (by assumption)]; first | assumption | (simp only [hel1, h35, h37, h39, hel2, h76, h78, h80, hel3, h128, h130, h132, c40, c68, c97, c107]; done)) | (rw [plc_end hel1 (by omega) hlt (by omega) (by assumption)]; first | assumption | (simp only [hel1, h35, h37, h39, hel2, h76, h78, h80, hel3, h128, h130, h132, c40, c68, c97, c107]; done))
        exact ⟨[(Fl r127), (Fl r129), (Fl r131)], rfl, ⟨r127, r129, r131, rfl, x137, x138, x139⟩⟩
      have c107' := c107
      (try simp only [icmp, Bool.and_eq_true, Bool.or_eq_true, Bool.and_eq_false_iff, Bool.or_eq_false_iff, Bool.not_eq_true', Bool.not_eq_false', decide_eq_true_eq, decide_eq_false_iff_not, beq_iff_eq, bne_iff_ne, beq_eq_false_iff_ne, bne_eq_false_iff_eq] at c107')
      refine wp_skip (hK69 _ _ ?_)
      refine wp_region_lit ?_
      refine q_is rfl rfl (does_move (u := (Iv (i : Int))) (ev rfl)) (by dsimp only [List.set]; try rfl) ?_
      refine q_is rfl rfl (does_iarith (p := (i : Int)) (q := 1) (r := (i : Int) + 1) (ev rfl) (ev rfl) (.inl ⟨rfl, (in_i64 (by omega) (by omega)).symm⟩)) (by dsimp only [List.set]; try rfl) ?_
      refine q_is rfl rfl (does_assign (u := (Iv ((i : Int) + 1))) (ev rfl)) (by dsimp only [List.set]; try rfl) ?_
      refine wpList_nil ?_
      refine ⟨i + 1, ⟨fun t => (([(.agg #[(.string A_t_.name), (.slice p6 A_t_.shape.nodes.length q7), (.slice p9 A_t_.keys.length q10)]), (Iv time), (Pt b13 0), Ud, (Pt b20 0), (Iv ((i : Int) + 1)), (Pt b81 0), (Iv time), (Pt b13 2), (.slice p9 A_t_.keys.length q10), (Pt b30 o31), (Pt b30 o31), (Iv el1.at_), (Bo (icmp .leq time el1.at_)), Ud, Ud, Ud, Ud, Ud, (Iv (i : Int)), (Pt b13 2), (.slice p9 A_t_.keys.length q10), (Iv (A_t_.keys.length : Int)), (Bo (icmp .lss (i : Int) (A_t_.keys.length : Int))), (Iv (i : Int)), (Iv ((i : Int) + 1)), (Pt b13 2), (.slice p9 A_t_.keys.length q10), (Iv (i : Int)), (Pt b71 o72), (.agg #[(Iv el2.at_), (Fl r75), (Fl r77), (Fl r79)]), (Bo (icmp .eql time el2.at_)), (Iv time), (Pt b81 0), (Iv el2.at_), (Bo (icmp .eql time el2.at_)), (u61 36), (u61 37), (Bo (icmp .lss time el2.at_)), (Iv time), (Pt b81 0), (Iv el2.at_), (Bo (icmp .lss time el2.at_)), (u61 43), (u61 44), (u61 45), (u61 46), (u61 47), (u61 48), (u61 49), (u61 50), (u61 51), Ud, Ud, Ud, Ud, Ud, Ud, Ud, Ud, Ud] : List Value)[t]?).getD undef, ?_, (Below.kl (Ext.gr E63 E84) (KpL.of_wr W92) (allS (Nat.le_trans E63.size hb82) all0) (Nat.le_refl _)), ?_⟩, ?_⟩
      · first | rfl | (simp only [Nat.cast_add, Nat.cast_one, Int.natCast_add, Int.natCast_one]; rfl)
      · (try dsimp only); exact ⟨by omega, by omega, LateTo.step hlt (by assumption) (by omega) (by omega)⟩
      · (try dsimp only); omega
    have c68' := c68
    (try simp only [icmp, Bool.and_eq_true, Bool.or_eq_true, Bool.and_eq_false_iff, Bool.or_eq_false_iff, Bool.not_eq_true', Bool.not_eq_false', decide_eq_true_eq, decide_eq_false_iff_not, beq_iff_eq, bne_iff_ne, beq_eq_false_iff_ne, bne_eq_false_iff_eq] at c68')
    refine wp_exit ?_
    refine hK59 _ _ ?_
    refine wp_seq_k fun K140 hK140 => ?_
    refine wp_region_lit ?_
    refine q_is rfl rfl (does_fieldAddr (ev rfl) fa45_2) (by dsimp only [List.set]; try rfl) ?_
    refine q_is rfl rfl (does_load (u := (.slice p9 A_t_.keys.length q10)) (ev rfl) Try.isAgg43 (Cells.at (Blk.cells ((hB15.ext E23).ext E63)) 2 rfl)) (by dsimp only [List.set]; try rfl) ?_
    refine q_is rfl rfl (does_fieldAddr (ev rfl) fa45_2) (by dsimp only [List.set]; try rfl) ?_
    refine q_is rfl rfl (does_load (u := (.slice p9 A_t_.keys.length q10)) (ev rfl) Try.isAgg43 (Cells.at (Blk.cells ((hB15.ext E23).ext E63)) 2 rfl)) (by dsimp only [List.set]; try rfl) ?_
    refine q_is rfl rfl (does_len_slice Try.underlying43 (ev rfl)) (by dsimp only [List.set]; try rfl) ?_
    refine q_is rfl rfl (does_iarith (p := (A_t_.keys.length : Int)) (q := 1) (r := (A_t_.keys.length : Int) - 1) (ev rfl) (ev rfl) (.inr (.inl ⟨rfl, (in_i64 (by omega) (by omega)).symm⟩))) (by dsimp only [List.set]; try rfl) ?_
    obtain ⟨el4, hel4⟩ : ∃ e, A_t_.keys[((A_t_.keys.length : Int) - 1).toNat]? = some e := ⟨_, List.getElem?_eq_getElem (by omega)⟩
    refine seqd rfl rfl (does_indexSl (R := RKeyT) (i := (A_t_.keys.length : Int) - 1) (xs := A_t_.keys) (e := el4) Try.underlying43 Try.sizeOf119 (ev rfl) (ev rfl) (Sl.ext hs11 RKeyT.mono X65) (by omega) hel4) ?_; rintro _ w62 ⟨b141, o142, _, rfl, hc144, ⟨r145, r147, r149, rfl, h146, h148, h150⟩, rfl⟩
    show wpList _ _ _ _ (fr [_, _, _, _, _, _, _, _, _, _, _, _, _, _, _, _, _, _, _, _, _, _, _, _, _, _, _, _, _, _, _, _, _, _, _, _, _, _, _, _, _, _, _, _, _, _, _, _, _, _, _, _, _, _, _, _, _, _, _, _, _]) _
    refine q_is rfl rfl (does_fieldAddr (ev rfl) fa119_1) (by dsimp only [List.set]; try rfl) ?_
    refine q_is rfl rfl (does_loadAgg (cs := [(Fl r145), (Fl r147), (Fl r149)]) (ev rfl) Try.isAgg40 Try.sizeOf40 (Cells.sub hc144 1 3) rfl) (by dsimp only [List.set]; try rfl) ?_
    refine seqn rfl rfl (does_store (n := 3) (cs := [(Fl 0), (Fl 0), (Fl 0)]) (u := (.agg #[(Fl r145), (Fl r147), (Fl r149)])) (ev rfl) (ev rfl) Try.sizeOf40 rfl (hB22.ext E63) (Nat.le_of_ble_eq_true rfl) rfl) ?_; rintro _ w153 ⟨rfl, W151, hB152⟩
    change Blk _ _ [(Fl r145), (Fl r147), (Fl r149)] at hB152
    have X154 := Below.wr X65 W151 g26
    refine wpList_nil (hK140 _ _ ?_)
    refine wp_ret ?_
    refine ret_val (v := (.agg #[(Fl r145), (Fl r147), (Fl r149)])) (res_C rfl (slot rfl) (run_loadAgg (cs := [(Fl r145), (Fl r147), (Fl r149)]) Try.isAgg40 Try.sizeOf40 (Blk.cells hB152) rfl)) X154 ?_
    try simp only [hel1, h35, h37, h39, hel4, h146, h148, h150] at c40 c68
    have x155 : cf .f32 r145 = (plcF A_t_.keys time).x := by first | (rw [plc_0 hel1 (by omega)]; first | assumption | (simp only [hel1, h35, h37, h39, hel4, h146, h148, h150, c40, c68]; done)) | (rw [plc_at hel1 (by omega) hlt (by omega) (by assumption) (by omega)]; first | assumption | (simp only [hel1, h35, h37, h39, hel4, h146, h148, h150, c40, c68]; done)) | (rw [plc_bt hel1 (by omega) hlt (by omega) (by assumption) (by omega) (by omega) (by assumption)]; first | assumption | (simp only [hel1, h35, h37, h39, hel4, h146, h148, h150, c40, c68]; done)) | (rw [plc_end hel1 (by omega) hlt (by omega) (by assumption)]; first | assumption | (simp only [hel1, h35, h37, h39, hel4, h146, h148, h150, c40, c68]; done))
    have x156 : cf .f32 r147 = (plcF A_t_.keys time).y := by first | (rw [plc_0 hel1 (by omega)]; first | assumption | (simp only [hel1, h35, h37, h39, hel4, h146, h148, h150, c40, c68]; done)) | (rw [plc_at hel1 (by omega) hlt (by omega) (by assumption) (by omega)]; first | assumption | (simp only [hel1, h35, h37, h39, hel4, h146, h148, h150, c40, c68]; done)) | (rw [plc_bt hel1 (by omega) hlt (by omega) (by assumption) (by omega) (by omega) (by assumption)]; first | assumption | (simp only [hel1, h35, h37, h39, hel4, h146, h148, h150, c40, c68]; done)) | (rw [plc_end hel1 (by omega) hlt (by omega) (by assumption)]; first | assumption | (simp only [hel1, h35, h37, h39, hel4, h146, h148, h150, c40, c68]; done))
    have x157 : cf .f32 r149 = (plcF A_t_.keys time).z := by first | (rw [plc_0 hel1 (by omega)]; first | assumption | (simp only [hel1, h35, h37, h39, hel4, h146, h148, h150, c40, c68]; done)) | (rw [plc_at hel1 (by omega) hlt (by omega) (by assumption) (by omega)]; first | assumption | (simp only [hel1, h35, h37, h39, hel4, h146, h148, h150, c40, c68]; done)) | (rw [plc_bt hel1 (by omega) hlt (by omega) (by assumption) (by omega) (by omega) (by assumption)]; first | assumption | (simp only [hel1, h35, h37, h39, hel4, h146, h148, h150, c40, c68]; done)) | (rw [plc_end hel1 (by omega) hlt (by omega) (by assumption)]; first | assumption | (simp only [hel1, h35, h37, h39, hel4, h146, h148, h150, c40, c68]; done))
    exact ⟨[(Fl r145), (Fl r147), (Fl r149)], rfl, ⟨r145, r147, r149, rfl, x155, x156, x157⟩⟩

/- impl.PlaceAt -/
theorem c_impl_PlaceAt (t_ : List Value) (A_t_ : ThingT) (time : Int) (w : World) (hv_t_ : RThingT w A_t_ t_) : Gives Try.prog 14 #[(.agg t_.toArray), (Iv time)] w (fun v w' => ∃ cs_1 : List Value, v = (.tuple #[(.agg cs_1.toArray), (Bo (plcOk A_t_ time))]) ∧ RV3 w (gvA zV (plcOk A_t_ time) (plcF A_t_.keys time)) cs_1) := by
  obtain ⟨y2, y4, rfl, h3, h5, hb1⟩ := hv_t_
  have hs8 := h3; have hs8l := Sl.len h3; obtain ⟨p6, q7, rfl⟩ := Sl.shape h3
  have hs11 := h5; have hs11l := Sl.len h5; obtain ⟨p9, q10, rfl⟩ := Sl.shape h5
  refine enter [(.agg #[(.string A_t_.name), (.slice p6 A_t_.shape.nodes.length q7), (.slice p9 A_t_.keys.length q10)]), (Iv time), Ud, Ud, Ud, Ud, Ud, Ud, Ud, Ud, Ud, Ud, Ud, Ud, Ud, Ud, Ud] Try.func14 rfl Try.ntmps14 rfl ?_
  refine wp_seq_k fun K12 hK12 => ?_
  refine wp_region_lit ?_
  refine seqd rfl rfl (does_box (u := (.agg #[(.string A_t_.name), (.slice p6 A_t_.shape.nodes.length q7), (.slice p9 A_t_.keys.length q10)])) (ev rfl)) ?_; rintro _ w17 ⟨b13, rfl, hb14, hB15, E16⟩
  have g18 : w.heap.size ≤ b13 := Nat.le_trans (Below.size (Ext.refl w)) hb14
  change Blk _ _ [(.string A_t_.name), (.slice p6 A_t_.shape.nodes.length q7), (.slice p9 A_t_.keys.length q10)] at hB15
  have X19 := Ext.gr (Ext.refl w) E16
  show wpList _ _ _ _ (fr [(.agg #[(.string A_t_.name), (.slice p6 A_t_.shape.nodes.length q7), (.slice p9 A_t_.keys.length q10)]), (Iv time), (Pt b13 0), Ud, Ud, Ud, Ud, Ud, Ud, Ud, Ud, Ud, Ud, Ud, Ud, Ud, Ud]) _
  refine seqd rfl rfl (does_alloc z40) ?_; rintro _ w24 ⟨b20, rfl, hb21, hB22, E23⟩
  have n25 : b13 < b20 := Nat.lt_of_lt_of_le (Blk.lt hB15) hb21
  have g26 : w.heap.size ≤ b20 := Nat.le_trans (Below.size X19) hb21
  change Blk _ _ [(Fl 0), (Fl 0), (Fl 0)] at hB22
  have X27 := Ext.gr X19 E23
  show wpList _ _ _ _ (fr [(.agg #[(.string A_t_.name), (.slice p6 A_t_.shape.nodes.length q7), (.slice p9 A_t_.keys.length q10)]), (Iv time), (Pt b13 0), Ud, (Pt b20 0), Ud, Ud, Ud, Ud, Ud, Ud, Ud, Ud, Ud, Ud, Ud, Ud]) _
  refine q_is (l' := [(.agg #[(.string A_t_.name), (.slice p6 A_t_.shape.nodes.length q7), (.slice p9 A_t_.keys.length q10)]), (Iv time), (Pt b13 0), Ud, (Pt b20 0), (Bo false), Ud, Ud, Ud, Ud, Ud, Ud, Ud, Ud, Ud, Ud, Ud]) rfl rfl (does_assign (u := (Bo false)) (ev rfl)) rfl ?_
  refine wpList_nil (hK12 _ _ ?_)
  refine wp_seq_k fun K28 hK28 => ?_
  refine wp_seq_k fun K29 hK29 => ?_
  obtain ⟨β1, hβ1⟩ : ∃ b : Bool, b = ((!(thingOk A_t_)) || (!(inI time 0 10000))) := ⟨_, rfl⟩
  refine region_text (
    [Fact.pure [] (fun v => v = (Bo (thingOk A_t_))),
    Fact.pure [6] (fun v => v = (Bo (!(thingOk A_t_)))),
    Fact.pure [7] (fun v => v = (Bo (!(thingOk A_t_)))),
    Fact.pure [8] (fun v => (!(thingOk A_t_)) = false → v = (Iv time)),
    Fact.pure [9, 8] (fun v => (!(thingOk A_t_)) = false → v = (Bo (inI time 0 10000))),
    Fact.pure [10, 8] (fun v => (!(thingOk A_t_)) = false → v = (Bo (!(inI time 0 10000)))),
    Fact.pure [8, 11] (fun v => v = (Bo β1))]) (by simp [Fact.pure, Fact.mem]) ?_
  refine RW_d (fun v30 => [(.agg #[(.string A_t_.name), (.slice p6 A_t_.shape.nodes.length q7), (.slice p9 A_t_.keys.length q10)]), (Iv time), (Pt b13 0), Ud, (Pt b20 0), (Bo false), v30, Ud, Ud, Ud, Ud, Ud, Ud, Ud, Ud, Ud, Ud]) rfl (fun _ => rfl) (fun u hu hF => ?_) (fun v30 => ?_)
  · clear hF
    refine doesG_un rfl ?_
    refine (does_call (args := #[(Pt b13 0)]) cal34 (evs rfl) (c_impl_Thing_ok b13 0 [(.string A_t_.name), (.slice p6 A_t_.shape.nodes.length q7), (.slice p9 A_t_.keys.length q10)] A_t_ _ (Blk.cells ((hB15.ext E23).ext hu)) ⟨(.slice p6 A_t_.shape.nodes.length q7), (.slice p9 A_t_.keys.length q10), rfl, (Sl.ext (Sl.ext hs8 RNodeT.mono X27) RNodeT.mono hu), (Sl.ext (Sl.ext hs11 RKeyT.mono X27) RKeyT.mono hu), (by assumption)⟩)).mono ?_; rintro v u' ⟨hx, hv⟩
    exact ⟨hv, hx⟩
  refine RW_d (fun v31 => [(.agg #[(.string A_t_.name), (.slice p6 A_t_.shape.nodes.length q7), (.slice p9 A_t_.keys.length q10)]), (Iv time), (Pt b13 0), Ud, (Pt b20 0), (Bo false), v30, v31, Ud, Ud, Ud, Ud, Ud, Ud, Ud, Ud, Ud]) rfl (fun _ => rfl) (fun u hu hF => ?_) (fun v31 => ?_)
  · have h6_ : v30 = (Bo (thingOk A_t_)) := hF.1
    clear hF
    refine doesG_un rfl ?_
    obtain rfl := h6_
    refine (does_not (ev rfl)).mono ?_; rintro _ _ ⟨rfl, rfl⟩
    exact ⟨rfl, Ext.refl _⟩
  refine RW_d (fun v32 => [(.agg #[(.string A_t_.name), (.slice p6 A_t_.shape.nodes.length q7), (.slice p9 A_t_.keys.length q10)]), (Iv time), (Pt b13 0), Ud, (Pt b20 0), (Bo false), v30, v31, v32, Ud, Ud, Ud, Ud, Ud, Ud, Ud, Ud]) rfl (fun _ => rfl) (fun u hu hF => ?_) (fun v32 => ?_)
  · have h7_ : v31 = (Bo (!(thingOk A_t_))) := hF.1
    clear hF
    refine doesG_un rfl ?_
    obtain rfl := h7_
    refine (does_move (u := (Bo (!(thingOk A_t_)))) (ev rfl)).mono ?_; rintro _ _ ⟨rfl, rfl⟩
    exact ⟨rfl, Ext.refl _⟩
  refine RW_d (fun v33 => [(.agg #[(.string A_t_.name), (.slice p6 A_t_.shape.nodes.length q7), (.slice p9 A_t_.keys.length q10)]), (Iv time), (Pt b13 0), Ud, (Pt b20 0), (Bo false), v30, v31, v32, v33, Ud, Ud, Ud, Ud, Ud, Ud, Ud]) rfl (fun _ => rfl) (fun u hu hF => ?_) (fun v33 => ?_)
  · have h8_ : v32 = (Bo (!(thingOk A_t_))) := hF.1
    clear hF
    obtain rfl := h8_
    refine doesG_g (b := (!(thingOk A_t_))) rfl (yld rfl rfl) (fun hg1 => ?_) (fun hc => ⟨fun hg1 => absurd hg1 hc, Ext.refl _⟩)
    refine (does_move (u := (Iv time)) (ev rfl)).mono ?_; rintro _ _ ⟨rfl, rfl⟩
    exact ⟨fun _ => rfl, Ext.refl _⟩
  refine RW_d (fun v34 => [(.agg #[(.string A_t_.name), (.slice p6 A_t_.shape.nodes.length q7), (.slice p9 A_t_.keys.length q10)]), (Iv time), (Pt b13 0), Ud, (Pt b20 0), (Bo false), v30, v31, v32, v33, v34, Ud, Ud, Ud, Ud, Ud, Ud]) rfl (fun _ => rfl) (fun u hu hF => ?_) (fun v34 => ?_)
  · have h9_ : (!(thingOk A_t_)) = false → v33 = (Iv time) := hF.1
    have h8_ : v32 = (Bo (!(thingOk A_t_))) := hF.2.1
    clear hF
    obtain rfl := h8_
    refine doesG_g (b := (!(thingOk A_t_))) rfl (yld rfl rfl) (fun hg1 => ?_) (fun hc => ⟨fun hg1 => absurd hg1 hc, Ext.refl _⟩)
    obtain rfl := h9_ hg1
    refine (does_call (args := #[(Iv time)]) cal35 (evs rfl) (c_impl_timeOk time _)).mono ?_; rintro v u' ⟨hx, hv⟩
    exact ⟨fun _ => hv, hx⟩
  refine RW_d (fun v35 => [(.agg #[(.string A_t_.name), (.slice p6 A_t_.shape.nodes.length q7), (.slice p9 A_t_.keys.length q10)]), (Iv time), (Pt b13 0), Ud, (Pt b20 0), (Bo false), v30, v31, v32, v33, v34, v35, Ud, Ud, Ud, Ud, Ud]) rfl (fun _ => rfl) (fun u hu hF => ?_) (fun v35 => ?_)
  · have h10_ : (!(thingOk A_t_)) = false → v34 = (Bo (inI time 0 10000)) := hF.1
    have h8_ : v32 = (Bo (!(thingOk A_t_))) := hF.2.1
    clear hF
    obtain rfl := h8_
    refine doesG_g (b := (!(thingOk A_t_))) rfl (yld rfl rfl) (fun hg1 => ?_) (fun hc => ⟨fun hg1 => absurd hg1 hc, Ext.refl _⟩)
    obtain rfl := h10_ hg1
    refine (does_not (ev rfl)).mono ?_; rintro _ _ ⟨rfl, rfl⟩
    exact ⟨fun _ => rfl, Ext.refl _⟩
  refine RW_d (fun v36 => [(.agg #[(.string A_t_.name), (.slice p6 A_t_.shape.nodes.length q7), (.slice p9 A_t_.keys.length q10)]), (Iv time), (Pt b13 0), Ud, (Pt b20 0), (Bo false), v30, v31, v32, v33, v34, v35, v36, Ud, Ud, Ud, Ud]) rfl (fun _ => rfl) (fun u hu hF => ?_) (fun v36 => ?_)
  · have h8_ : v32 = (Bo (!(thingOk A_t_))) := hF.1
    have h11_ : (!(thingOk A_t_)) = false → v35 = (Bo (!(inI time 0 10000))) := hF.2.1
    clear hF
    refine doesG_un rfl ?_
    skip
    obtain rfl := h8_
    refine (does_pick (b := (!(thingOk A_t_))) (u := (Bo true)) (v := v35) (ev rfl) (ev rfl) (ev rfl)).mono ?_; rintro _ _ ⟨rfl, rfl⟩; refine ⟨?_, Ext.refl _⟩; rw [hβ1]; skip
    cases hbb : (!(thingOk A_t_))
    all_goals first | (show _ = _; simp only [↓reduceIte, Bool.true_and, Bool.false_and, Bool.true_or, Bool.false_or, Bool.false_eq_true]; done) | (have e_ := h11_ hbb; subst e_; show _ = _; simp only [↓reduceIte, Bool.true_and, Bool.false_and, Bool.true_or, Bool.false_or, Bool.false_eq_true]; done) | rfl | (have e_ := h11_ hbb; subst e_; rfl) | (simp [hbb] at h11_ ⊢; first | done | rfl | (subst h11_; rfl) | simp_all) | (simp [hbb] at h11_ ⊢; done)
  refine RW_fin ?_; intro w37 E38 hP39
  obtain ⟨⟨⟨⟨⟨⟨⟨-, -⟩, -⟩, -⟩, -⟩, -⟩, -⟩, q40⟩ := hP39
  have X41 := Ext.gr X27 E38
  have q40 : v36 = (Bo β1) := q40
  obtain rfl := q40
  show wpList _ _ _ _ (fr [(.agg #[(.string A_t_.name), (.slice p6 A_t_.shape.nodes.length q7), (.slice p9 A_t_.keys.length q10)]), (Iv time), (Pt b13 0), Ud, (Pt b20 0), (Bo false), v30, v31, v32, v33, v34, v35, (Bo β1), Ud, Ud, Ud, Ud]) _
  refine wpList_nil (hK29 _ _ ?_)
  refine wp_cond_split (t := β1) (ev rfl) (fun c42 => ?_) (fun c42 => ?_)
  · have c42' := c42
    (try simp only [hβ1] at c42')
    (try simp only [icmp, Bool.and_eq_true, Bool.or_eq_true, Bool.and_eq_false_iff, Bool.or_eq_false_iff, Bool.not_eq_true', Bool.not_eq_false', decide_eq_true_eq, decide_eq_false_iff_not, beq_iff_eq, bne_iff_ne, beq_eq_false_iff_ne, bne_eq_false_iff_eq] at c42')
    have hpf := plcOk_f c42'
    refine wp_seq_k fun K43 hK43 => ?_
    refine wp_region_lit ?_
    refine q_is (l' := [(.agg #[(.string A_t_.name), (.slice p6 A_t_.shape.nodes.length q7), (.slice p9 A_t_.keys.length q10)]), (Iv time), (Pt b13 0), Ud, (Pt b20 0), (Bo false), v30, v31, v32, v33, v34, v35, (Bo β1), (.agg #[(Fl 0), (Fl 0), (Fl 0)]), Ud, Ud, Ud]) rfl rfl (does_build (parts' := []) (cells := #[(Fl 0), (Fl 0), (Fl 0)]) (evp rfl) (by kernel_rfl)) rfl ?_
    refine seqn rfl rfl (does_store (n := 3) (cs := [(Fl 0), (Fl 0), (Fl 0)]) (u := (.agg #[(Fl 0), (Fl 0), (Fl 0)])) (ev rfl) (ev rfl) Try.sizeOf40 rfl (hB22.ext E38) (Nat.le_of_ble_eq_true rfl) rfl) ?_; rintro _ w46 ⟨rfl, W44, hB45⟩
    change Blk _ _ [(Fl 0), (Fl 0), (Fl 0)] at hB45
    have X47 := Below.wr X41 W44 g26
    refine q_is (l' := [(.agg #[(.string A_t_.name), (.slice p6 A_t_.shape.nodes.length q7), (.slice p9 A_t_.keys.length q10)]), (Iv time), (Pt b13 0), Ud, (Pt b20 0), (Bo false), v30, v31, v32, v33, v34, v35, (Bo β1), (.agg #[(Fl 0), (Fl 0), (Fl 0)]), Ud, Ud, Ud]) rfl rfl (does_assign (u := (Bo false)) (ev rfl)) rfl ?_
    refine wpList_nil (hK43 _ _ ?_)
    refine wp_ret ?_
    dsimp only [Exit.then, Exit.inBlock]
    refine ret_val (v := (.tuple #[(.agg #[(Fl 0), (Fl 0), (Fl 0)]), (Bo false)])) (res_CT rfl (slot rfl) (run_loadAgg (cs := [(Fl 0), (Fl 0), (Fl 0)]) Try.isAgg40 Try.sizeOf40 (Blk.cells hB45) rfl) (slot rfl)) X47 ?_
    try simp only [hβ1] at c42
    have x48 : (plcOk A_t_ time) = false := by first | exact hpf | exact hpt | (rw [hpf] <;> rfl) | (rw [hpt, gvA_t]; assumption)
    have x49 : cf .f32 0 = (gvA zV (plcOk A_t_ time) (plcF A_t_.keys time)).x := by first | exact hpf | exact hpt | (rw [hpf] <;> rfl) | (rw [hpt, gvA_t]; assumption)
    have x50 : cf .f32 0 = (gvA zV (plcOk A_t_ time) (plcF A_t_.keys time)).y := by first | exact hpf | exact hpt | (rw [hpf] <;> rfl) | (rw [hpt, gvA_t]; assumption)
    have x51 : cf .f32 0 = (gvA zV (plcOk A_t_ time) (plcF A_t_.keys time)).z := by first | exact hpf | exact hpt | (rw [hpf] <;> rfl) | (rw [hpt, gvA_t]; assumption)
    exact ⟨[(Fl 0), (Fl 0), (Fl 0)], (by first | with_reducible rfl | rw [x48] | rfl), ⟨0, 0, 0, rfl, x49, x50, x51⟩⟩
  have c42' := c42
  (try simp only [hβ1] at c42')
  (try simp only [icmp, Bool.and_eq_true, Bool.or_eq_true, Bool.and_eq_false_iff, Bool.or_eq_false_iff, Bool.not_eq_true', Bool.not_eq_false', decide_eq_true_eq, decide_eq_false_iff_not, beq_iff_eq, bne_iff_ne, beq_eq_false_iff_ne, bne_eq_false_iff_eq] at c42')
  have hpt := plcOk_t c42'
  have hkp := thing_pos (c42').1
  refine wp_skip (hK28 _ _ ?_)
  refine wp_seq_k fun K52 hK52 => ?_
  refine wp_region_lit ?_
  refine q_is (l' := [(.agg #[(.string A_t_.name), (.slice p6 A_t_.shape.nodes.length q7), (.slice p9 A_t_.keys.length q10)]), (Iv time), (Pt b13 0), Ud, (Pt b20 0), (Bo false), v30, v31, v32, v33, v34, v35, (Bo β1), Ud, (.agg #[(.string A_t_.name), (.slice p6 A_t_.shape.nodes.length q7), (.slice p9 A_t_.keys.length q10)]), Ud, Ud]) rfl rfl (does_loadAgg (cs := [(.string A_t_.name), (.slice p6 A_t_.shape.nodes.length q7), (.slice p9 A_t_.keys.length q10)]) (ev rfl) Try.isAgg45 Try.sizeOf45 (Blk.cells ((hB15.ext E23).ext E38)) rfl) rfl ?_
  refine q_is (l' := [(.agg #[(.string A_t_.name), (.slice p6 A_t_.shape.nodes.length q7), (.slice p9 A_t_.keys.length q10)]), (Iv time), (Pt b13 0), Ud, (Pt b20 0), (Bo false), v30, v31, v32, v33, v34, v35, (Bo β1), Ud, (.agg #[(.string A_t_.name), (.slice p6 A_t_.shape.nodes.length q7), (.slice p9 A_t_.keys.length q10)]), (Iv time), Ud]) rfl rfl (does_move (u := (Iv time)) (ev rfl)) rfl ?_
  refine seqd rfl rfl (does_call (args := #[(.agg #[(.string A_t_.name), (.slice p6 A_t_.shape.nodes.length q7), (.slice p9 A_t_.keys.length q10)]), (Iv time)]) cal36 (evs rfl) (c_impl_placeAt [(.string A_t_.name), (.slice p6 A_t_.shape.nodes.length q7), (.slice p9 A_t_.keys.length q10)] A_t_ time _ ⟨(.slice p6 A_t_.shape.nodes.length q7), (.slice p9 A_t_.keys.length q10), rfl, (Sl.ext hs8 RNodeT.mono X41), (Sl.ext hs11 RKeyT.mono X41), (by assumption)⟩ (by exact hkp.1))) ?_; rintro _ w54 ⟨E53, ⟨_, rfl, ⟨r55, r57, r59, rfl, h56, h58, h60⟩⟩⟩
  have X61 := Ext.gr X41 E53
  show wpList _ _ _ _ (fr [(.agg #[(.string A_t_.name), (.slice p6 A_t_.shape.nodes.length q7), (.slice p9 A_t_.keys.length q10)]), (Iv time), (Pt b13 0), Ud, (Pt b20 0), (Bo false), v30, v31, v32, v33, v34, v35, (Bo β1), Ud, (.agg #[(.string A_t_.name), (.slice p6 A_t_.shape.nodes.length q7), (.slice p9 A_t_.keys.length q10)]), (Iv time), (.agg #[(Fl r55), (Fl r57), (Fl r59)])]) _
  refine seqn rfl rfl (does_store (n := 3) (cs := [(Fl 0), (Fl 0), (Fl 0)]) (u := (.agg #[(Fl r55), (Fl r57), (Fl r59)])) (ev rfl) (ev rfl) Try.sizeOf40 rfl ((hB22.ext E38).ext E53) (Nat.le_of_ble_eq_true rfl) rfl) ?_; rintro _ w64 ⟨rfl, W62, hB63⟩
  change Blk _ _ [(Fl r55), (Fl r57), (Fl r59)] at hB63
  have X65 := Below.wr X61 W62 g26
  refine q_is (l' := [(.agg #[(.string A_t_.name), (.slice p6 A_t_.shape.nodes.length q7), (.slice p9 A_t_.keys.length q10)]), (Iv time), (Pt b13 0), Ud, (Pt b20 0), (Bo true), v30, v31, v32, v33, v34, v35, (Bo β1), Ud, (.agg #[(.string A_t_.name), (.slice p6 A_t_.shape.nodes.length q7), (.slice p9 A_t_.keys.length q10)]), (Iv time), (.agg #[(Fl r55), (Fl r57), (Fl r59)])]) rfl rfl (does_assign (u := (Bo true)) (ev rfl)) rfl ?_
  refine wpList_nil (hK52 _ _ ?_)
  refine wp_ret ?_
  refine ret_val (v := (.tuple #[(.agg #[(Fl r55), (Fl r57), (Fl r59)]), (Bo true)])) (res_CT rfl (slot rfl) (run_loadAgg (cs := [(Fl r55), (Fl r57), (Fl r59)]) Try.isAgg40 Try.sizeOf40 (Blk.cells hB63) rfl) (slot rfl)) X65 ?_
  try simp only [hβ1, h56, h58, h60] at c42
  have x66 : (plcOk A_t_ time) = true := by first | exact hpf | exact hpt | (rw [hpf] <;> rfl) | (rw [hpt, gvA_t]; assumption)
  have x67 : cf .f32 r55 = (gvA zV (plcOk A_t_ time) (plcF A_t_.keys time)).x := by first | exact hpf | exact hpt | (rw [hpf] <;> rfl) | (rw [hpt, gvA_t]; assumption)
  have x68 : cf .f32 r57 = (gvA zV (plcOk A_t_ time) (plcF A_t_.keys time)).y := by first | exact hpf | exact hpt | (rw [hpf] <;> rfl) | (rw [hpt, gvA_t]; assumption)
  have x69 : cf .f32 r59 = (gvA zV (plcOk A_t_ time) (plcF A_t_.keys time)).z := by first | exact hpf | exact hpt | (rw [hpf] <;> rfl) | (rw [hpt, gvA_t]; assumption)
  exact ⟨[(Fl r55), (Fl r57), (Fl r59)], (by first | with_reducible rfl | rw [x66] | rfl), ⟨r55, r57, r59, rfl, x67, x68, x69⟩⟩

/- laws.sameFloat -/
theorem c_laws_sameFloat (x : Nat) (y : Nat) (w : World) : Gives Try.prog 37 #[(Fd x), (Fd y)] w (fun v w' => v = (Bo (sameF (cf .f64 x) (cf .f64 y)))) := by
  refine enter [(Fd x), (Fd y), Ud, Ud, Ud, Ud, Ud, Ud, Ud, Ud, Ud, Ud, Ud, Ud, Ud, Ud, Ud, Ud, Ud, Ud, Ud, Ud, Ud, Ud, Ud, Ud, Ud, Ud, Ud, Ud, Ud, Ud, Ud, Ud, Ud, Ud, Ud] Try.func37 rfl Try.ntmps37 rfl ?_
  refine wp_seq_k fun K1 hK1 => ?_
  refine wp_region_lit ?_
  refine q_is rfl rfl (does_assign (u := (Bo false)) (ev rfl)) (by dsimp only [List.set]; try rfl) ?_
  refine wpList_nil (hK1 _ _ ?_)
  refine wp_seq_k fun K2 hK2 => ?_
  refine wp_seq_k fun K3 hK3 => ?_
  obtain ⟨β1, hβ1⟩ : ∃ b : Bool, b = (fcmp .neq (ford .f64 (cf .f64 x) (cf .f64 x))) := ⟨_, rfl⟩
  obtain ⟨β2, hβ2⟩ : ∃ b : Bool, b = (fcmp .neq (ford .f64 (cf .f64 y) (cf .f64 y))) := ⟨_, rfl⟩
  refine region_text (
    [Fact.pure [] (fun v => v = (Fd x)),
    Fact.pure [] (fun v => v = (Fd x)),
    Fact.pure [5, 6] (fun v => v = (Bo β1)),
    Fact.pure [7] (fun v => v = (Bo β1)),
    Fact.pure [8] (fun v => β1 = false → v = (Fd y)),
    Fact.pure [8] (fun v => β1 = false → v = (Fd y)),
    Fact.pure [9, 10, 8] (fun v => β1 = false → v = (Bo β2)),
    Fact.pure [8, 11] (fun v => v = (Bo (β1 || β2)))]) (by simp [Fact.pure, Fact.mem]) ?_
  refine RW_d _ rfl (fun v => by dsimp only [List.set]; try rfl) (fun u hu hF => ?_) (fun v4 => ?_)
  · clear hF
    refine doesG_un rfl ?_
    refine (does_move (u := (Fd x)) (ev rfl)).mono ?_; rintro _ _ ⟨rfl, rfl⟩
    exact ⟨rfl, Ext.refl _⟩
  refine RW_d _ rfl (fun v => by dsimp only [List.set]; try rfl) (fun u hu hF => ?_) (fun v5 => ?_)
  · clear hF
    refine doesG_un rfl ?_
    refine (does_move (u := (Fd x)) (ev rfl)).mono ?_; rintro _ _ ⟨rfl, rfl⟩
    exact ⟨rfl, Ext.refl _⟩
  refine RW_d _ rfl (fun v => by dsimp only [List.set]; try rfl) (fun u hu hF => ?_) (fun v6 => ?_)
  · have h5_ : v4 = (Fd x) := hF.1
    have h6_ : v5 = (Fd x) := hF.2.1
    clear hF
    refine doesG_un rfl ?_
    obtain rfl := h5_
    obtain rfl := h6_
    refine (does_fcmp (.inr (.inl rfl)) (ev rfl) (ev rfl)).mono ?_; rintro _ _ ⟨rfl, rfl⟩
    exact ⟨(by first | rfl | (show _ = _; simp only [hβ1]; done) | (show _ = _; simp only [hβ1]; rfl)), Ext.refl _⟩
  refine RW_d _ rfl (fun v => by dsimp only [List.set]; try rfl) (fun u hu hF => ?_) (fun v7 => ?_)
  · have h7_ : v6 = (Bo β1) := hF.1
    clear hF
    refine doesG_un rfl ?_
    obtain rfl := h7_
    refine (does_move (u := (Bo β1)) (ev rfl)).mono ?_; rintro _ _ ⟨rfl, rfl⟩
    exact ⟨rfl, Ext.refl _⟩
  refine RW_d _ rfl (fun v => by dsimp only [List.set]; try rfl) (fun u hu hF => ?_) (fun v8 => ?_)
  · have h8_ : v7 = (Bo β1) := hF.1
    clear hF
    obtain rfl := h8_
    refine doesG_g (b := β1) rfl (yld rfl rfl) (fun hg1 => ?_) (fun hc => ⟨fun hg1 => absurd hg1 hc, Ext.refl _⟩)
    refine (does_move (u := (Fd y)) (ev rfl)).mono ?_; rintro _ _ ⟨rfl, rfl⟩
    exact ⟨fun _ => rfl, Ext.refl _⟩
  refine RW_d _ rfl (fun v => by dsimp only [List.set]; try rfl) (fun u hu hF => ?_) (fun v9 => ?_)
  · have h8_ : v7 = (Bo β1) := hF.1
    clear hF
    obtain rfl := h8_
    refine doesG_g (b := β1) rfl (yld rfl rfl) (fun hg1 => ?_) (fun hc => ⟨fun hg1 => absurd hg1 hc, Ext.refl _⟩)
    refine (does_move (u := (Fd y)) (ev rfl)).mono ?_; rintro _ _ ⟨rfl, rfl⟩
    exact ⟨fun _ => rfl, Ext.refl _⟩
  refine RW_d _ rfl (fun v => by dsimp only [List.set]; try rfl) (fun u hu hF => ?_) (fun v10 => ?_)
  · have h9_ : β1 = false → v8 = (Fd y) := hF.1
    have h10_ : β1 = false → v9 = (Fd y) := hF.2.1
    have h8_ : v7 = (Bo β1) := hF.2.2.1
    clear hF
    obtain rfl := h8_
    refine doesG_g (b := β1) rfl (yld rfl rfl) (fun hg1 => ?_) (fun hc => ⟨fun hg1 => absurd hg1 hc, Ext.refl _⟩)
    obtain rfl := h9_ hg1
    obtain rfl := h10_ hg1
    refine (does_fcmp (.inr (.inl rfl)) (ev rfl) (ev rfl)).mono ?_; rintro _ _ ⟨rfl, rfl⟩
    exact ⟨fun _ => (by first | rfl | (show _ = _; simp only [hβ2]; done) | (show _ = _; simp only [hβ2]; rfl)), Ext.refl _⟩
  refine RW_d _ rfl (fun v => by dsimp only [List.set]; try rfl) (fun u hu hF => ?_) (fun v11 => ?_)
  · have h8_ : v7 = (Bo β1) := hF.1
    have h11_ : β1 = false → v10 = (Bo β2) := hF.2.1
    clear hF
    refine doesG_un rfl ?_
    skip
    obtain rfl := h8_
    refine (does_pick (b := β1) (u := (Bo true)) (v := v10) (ev rfl) (ev rfl) (ev rfl)).mono ?_; rintro _ _ ⟨rfl, rfl⟩; refine ⟨?_, Ext.refl _⟩; skip
    cases hbb : β1
    all_goals first | (show _ = _; simp only [↓reduceIte, Bool.true_and, Bool.false_and, Bool.true_or, Bool.false_or, Bool.false_eq_true]; done) | (have e_ := h11_ hbb; subst e_; show _ = _; simp only [↓reduceIte, Bool.true_and, Bool.false_and, Bool.true_or, Bool.false_or, Bool.false_eq_true]; done) | rfl | (have e_ := h11_ hbb; subst e_; rfl) | (simp [hbb] at h11_ ⊢; first | done | rfl | (subst h11_; rfl) | simp_all) | (simp [hbb] at h11_ ⊢; done)
  refine RW_fin ?_; intro w12 E13 hP14
  obtain ⟨⟨⟨⟨⟨⟨⟨⟨-, -⟩, -⟩, -⟩, -⟩, -⟩, -⟩, -⟩, q15⟩ := hP14
  have X16 := Ext.gr (Ext.refl w) E13
  have q15 : v11 = (Bo (β1 || β2)) := q15
  obtain rfl := q15
  show wpList _ _ _ _ (fr [_, _, _, _, _, _, _, _, _, _, _, _, _, _, _, _, _, _, _, _, _, _, _, _, _, _, _, _, _, _, _, _, _, _, _, _, _]) _
  refine wpList_nil (hK3 _ _ ?_)
  refine wp_cond_split (t := β1 || β2) (ev rfl) (fun c17 => ?_) (fun c17 => ?_)
  · have c17' := c17
    (try simp only [hβ1, hβ2] at c17')
    (try simp only [icmp, Bool.and_eq_true, Bool.or_eq_true, Bool.and_eq_false_iff, Bool.or_eq_false_iff, Bool.not_eq_true', Bool.not_eq_false', decide_eq_true_eq, decide_eq_false_iff_not, beq_iff_eq, bne_iff_ne, beq_eq_false_iff_ne, bne_eq_false_iff_eq] at c17')
    refine wp_seq_k fun K18 hK18 => ?_
    obtain ⟨β3, hβ3⟩ : ∃ b : Bool, b = (fcmp .neq (ford .f64 (cf .f64 x) (cf .f64 x))) := ⟨_, rfl⟩
    obtain ⟨β4, hβ4⟩ : ∃ b : Bool, b = (fcmp .neq (ford .f64 (cf .f64 y) (cf .f64 y))) := ⟨_, rfl⟩
    refine region_text (
      [Fact.pure [] (fun v => v = (Fd x)),
    Fact.pure [] (fun v => v = (Fd x)),
    Fact.pure [13, 14] (fun v => v = (Bo β3)),
    Fact.pure [15] (fun v => v = (Bo β3)),
    Fact.pure [16] (fun v => β3 = true → v = (Fd y)),
    Fact.pure [16] (fun v => β3 = true → v = (Fd y)),
    Fact.pure [17, 18, 16] (fun v => β3 = true → v = (Bo β4)),
    Fact.pure [16, 19] (fun v => v = (Bo (β3 && β4)))]) (by simp [Fact.pure, Fact.mem]) ?_
    refine RW_d _ rfl (fun v => by dsimp only [List.set]; try rfl) (fun u hu hF => ?_) (fun v19 => ?_)
    · clear hF
      refine doesG_un rfl ?_
      refine (does_move (u := (Fd x)) (ev rfl)).mono ?_; rintro _ _ ⟨rfl, rfl⟩
      exact ⟨rfl, Ext.refl _⟩
    refine RW_d _ rfl (fun v => by dsimp only [List.set]; try rfl) (fun u hu hF => ?_) (fun v20 => ?_)
    · clear hF
      refine doesG_un rfl ?_
      refine (does_move (u := (Fd x)) (ev rfl)).mono ?_; rintro _ _ ⟨rfl, rfl⟩
      exact ⟨rfl, Ext.refl _⟩
    refine RW_d _ rfl (fun v => by dsimp only [List.set]; try rfl) (fun u hu hF => ?_) (fun v21 => ?_)
    · have h13_ : v19 = (Fd x) := hF.1
      have h14_ : v20 = (Fd x) := hF.2.1
      clear hF
      refine doesG_un rfl ?_
      obtain rfl := h13_
      obtain rfl := h14_
      refine (does_fcmp (.inr (.inl rfl)) (ev rfl) (ev rfl)).mono ?_; rintro _ _ ⟨rfl, rfl⟩
      exact ⟨(by first | rfl | (show _ = _; simp only [hβ3]; done) | (show _ = _; simp only [hβ3]; rfl)), Ext.refl _⟩
    refine RW_d _ rfl (fun v => by dsimp only [List.set]; try rfl) (fun u hu hF => ?_) (fun v22 => ?_)
    · have h15_ : v21 = (Bo β3) := hF.1
      clear hF
      refine doesG_un rfl ?_
      obtain rfl := h15_
      refine (does_move (u := (Bo β3)) (ev rfl)).mono ?_; rintro _ _ ⟨rfl, rfl⟩
      exact ⟨rfl, Ext.refl _⟩
    refine RW_d _ rfl (fun v => by dsimp only [List.set]; try rfl) (fun u hu hF => ?_) (fun v23 => ?_)
    · have h16_ : v22 = (Bo β3) := hF.1
      clear hF
      obtain rfl := h16_
      refine doesG_g (b := β3) rfl (yld rfl rfl) (fun hg1 => ?_) (fun hc => ⟨fun hg1 => absurd hg1 hc, Ext.refl _⟩)
      refine (does_move (u := (Fd y)) (ev rfl)).mono ?_; rintro _ _ ⟨rfl, rfl⟩
      exact ⟨fun _ => rfl, Ext.refl _⟩
    refine RW_d _ rfl (fun v => by dsimp only [List.set]; try rfl) (fun u hu hF => ?_) (fun v24 => ?_)
    · have h16_ : v22 = (Bo β3) := hF.1
      clear hF
      obtain rfl := h16_
      refine doesG_g (b := β3) rfl (yld rfl rfl) (fun hg1 => ?_) (fun hc => ⟨fun hg1 => absurd hg1 hc, Ext.refl _⟩)
      refine (does_move (u := (Fd y)) (ev rfl)).mono ?_; rintro _ _ ⟨rfl, rfl⟩
      exact ⟨fun _ => rfl, Ext.refl _⟩
    refine RW_d _ rfl (fun v => by dsimp only [List.set]; try rfl) (fun u hu hF => ?_) (fun v25 => ?_)
    · have h17_ : β3 = true → v23 = (Fd y) := hF.1
      have h18_ : β3 = true → v24 = (Fd y) := hF.2.1
      have h16_ : v22 = (Bo β3) := hF.2.2.1
      clear hF
      obtain rfl := h16_
      refine doesG_g (b := β3) rfl (yld rfl rfl) (fun hg1 => ?_) (fun hc => ⟨fun hg1 => absurd hg1 hc, Ext.refl _⟩)
      obtain rfl := h17_ hg1
      obtain rfl := h18_ hg1
      refine (does_fcmp (.inr (.inl rfl)) (ev rfl) (ev rfl)).mono ?_; rintro _ _ ⟨rfl, rfl⟩
      exact ⟨fun _ => (by first | rfl | (show _ = _; simp only [hβ4]; done) | (show _ = _; simp only [hβ4]; rfl)), Ext.refl _⟩
    refine RW_d _ rfl (fun v => by dsimp only [List.set]; try rfl) (fun u hu hF => ?_) (fun v26 => ?_)
    · have h16_ : v22 = (Bo β3) := hF.1
      have h19_ : β3 = true → v25 = (Bo β4) := hF.2.1
      clear hF
      refine doesG_un rfl ?_
      skip
      obtain rfl := h16_
      refine (does_pick (b := β3) (u := v25) (v := (Bo false)) (ev rfl) (ev rfl) (ev rfl)).mono ?_; rintro _ _ ⟨rfl, rfl⟩; refine ⟨?_, Ext.refl _⟩; skip
      cases hbb : β3
      all_goals first | (show _ = _; simp only [↓reduceIte, Bool.true_and, Bool.false_and, Bool.true_or, Bool.false_or, Bool.false_eq_true]; done) | (have e_ := h19_ hbb; subst e_; show _ = _; simp only [↓reduceIte, Bool.true_and, Bool.false_and, Bool.true_or, Bool.false_or, Bool.false_eq_true]; done) | rfl | (have e_ := h19_ hbb; subst e_; rfl) | (simp [hbb] at h19_ ⊢; first | done | rfl | (subst h19_; rfl) | simp_all) | (simp [hbb] at h19_ ⊢; done)
    refine RW_fin ?_; intro w27 E28 hP29
    obtain ⟨⟨⟨⟨⟨⟨⟨⟨-, -⟩, -⟩, -⟩, -⟩, -⟩, -⟩, -⟩, q30⟩ := hP29
    have X31 := Ext.gr X16 E28
    have q30 : v26 = (Bo (β3 && β4)) := q30
    obtain rfl := q30
    show wpList _ _ _ _ (fr [_, _, _, _, _, _, _, _, _, _, _, _, _, _, _, _, _, _, _, _, _, _, _, _, _, _, _, _, _, _, _, _, _, _, _, _, _]) _
    refine q_is rfl rfl (does_assign (u := (Bo (β3 && β4))) (ev rfl)) (by dsimp only [List.set]; try rfl) ?_
    refine wpList_nil (hK18 _ _ ?_)
    refine wp_ret ?_
    dsimp only [Exit.then, Exit.inBlock]
    refine ret_val (v := (Bo (β3 && β4))) (res_T rfl (slot rfl)) X31 ?_
    try simp only [hβ1, hβ2, hβ3, hβ4] at c17
    have x32 : (sameF (cf .f64 x) (cf .f64 y)) = (β3 && β4) := by first | with_reducible rfl | (simp only [sameF, hβ1, hβ2, hβ3, hβ4, c17]; done) | (simp [sameF, hβ1, hβ2, hβ3, hβ4, c17]; done) | (revert c17; simp +contextual [sameF, hβ1, hβ2, hβ3, hβ4]; done) | (rcases c17' with hh | hh <;> simp only [hh, sameF, hβ1, hβ2, hβ3, hβ4, c17]; done) | (rcases c17' with hh | hh <;> simp_all [sameF]; done) | (rcases c17' with hh | hh | hh <;> simp_all [sameF]; done) | (rcases c17' with hh | hh | hh | hh <;> simp_all [sameF]; done) | (simp_all [sameF]; done) | rfl
    exact (by first | with_reducible rfl | rw [x32] | rfl)
  have c17' := c17
  (try simp only [hβ1, hβ2] at c17')
  (try simp only [icmp, Bool.and_eq_true, Bool.or_eq_true, Bool.and_eq_false_iff, Bool.or_eq_false_iff, Bool.not_eq_true', Bool.not_eq_false', decide_eq_true_eq, decide_eq_false_iff_not, beq_iff_eq, bne_iff_ne, beq_eq_false_iff_ne, bne_eq_false_iff_eq] at c17')
  refine wp_skip (hK2 _ _ ?_)
  refine wp_seq_k fun K33 hK33 => ?_
  refine wp_seq_k fun K34 hK34 => ?_
  obtain ⟨β5, hβ5⟩ : ∃ b : Bool, b = (fcmp .eql (ford .f64 (cf .f64 x) (cf .f64 0))) := ⟨_, rfl⟩
  obtain ⟨β6, hβ6⟩ : ∃ b : Bool, b = (fcmp .eql (ford .f64 (cf .f64 y) (cf .f64 0))) := ⟨_, rfl⟩
  refine region_text (
    [Fact.pure [] (fun v => v = (Fd x)),
    Fact.pure [21] (fun v => v = (Bo β5)),
    Fact.pure [22] (fun v => v = (Bo β5)),
    Fact.pure [23] (fun v => β5 = true → v = (Fd y)),
    Fact.pure [24, 23] (fun v => β5 = true → v = (Bo β6)),
    Fact.pure [23, 25] (fun v => v = (Bo (β5 && β6)))]) (by simp [Fact.pure, Fact.mem]) ?_
  refine RW_d _ rfl (fun v => by dsimp only [List.set]; try rfl) (fun u hu hF => ?_) (fun v35 => ?_)
  · clear hF
    refine doesG_un rfl ?_
    refine (does_move (u := (Fd x)) (ev rfl)).mono ?_; rintro _ _ ⟨rfl, rfl⟩
    exact ⟨rfl, Ext.refl _⟩
  refine RW_d _ rfl (fun v => by dsimp only [List.set]; try rfl) (fun u hu hF => ?_) (fun v36 => ?_)
  · have h21_ : v35 = (Fd x) := hF.1
    clear hF
    refine doesG_un rfl ?_
    obtain rfl := h21_
    refine (does_fcmp (.inl rfl) (ev rfl) (ev rfl)).mono ?_; rintro _ _ ⟨rfl, rfl⟩
    exact ⟨(by first | rfl | (show _ = _; simp only [hβ5]; done) | (show _ = _; simp only [hβ5]; rfl)), Ext.refl _⟩
  refine RW_d _ rfl (fun v => by dsimp only [List.set]; try rfl) (fun u hu hF => ?_) (fun v37 => ?_)
  · have h22_ : v36 = (Bo β5) := hF.1
    clear hF
    refine doesG_un rfl ?_
    obtain rfl := h22_
    refine (does_move (u := (Bo β5)) (ev rfl)).mono ?_; rintro _ _ ⟨rfl, rfl⟩
    exact ⟨rfl, Ext.refl _⟩
  refine RW_d _ rfl (fun v => by dsimp only [List.set]; try rfl) (fun u hu hF => ?_) (fun v38 => ?_)
  · have h23_ : v37 = (Bo β5) := hF.1
    clear hF
    obtain rfl := h23_
    refine doesG_g (b := β5) rfl (yld rfl rfl) (fun hg1 => ?_) (fun hc => ⟨fun hg1 => absurd hg1 hc, Ext.refl _⟩)
    refine (does_move (u := (Fd y)) (ev rfl)).mono ?_; rintro _ _ ⟨rfl, rfl⟩
    exact ⟨fun _ => rfl, Ext.refl _⟩
  refine RW_d _ rfl (fun v => by dsimp only [List.set]; try rfl) (fun u hu hF => ?_) (fun v39 => ?_)
  · have h24_ : β5 = true → v38 = (Fd y) := hF.1
    have h23_ : v37 = (Bo β5) := hF.2.1
    clear hF
    obtain rfl := h23_
    refine doesG_g (b := β5) rfl (yld rfl rfl) (fun hg1 => ?_) (fun hc => ⟨fun hg1 => absurd hg1 hc, Ext.refl _⟩)
    obtain rfl := h24_ hg1
    refine (does_fcmp (.inl rfl) (ev rfl) (ev rfl)).mono ?_; rintro _ _ ⟨rfl, rfl⟩
    exact ⟨fun _ => (by first | rfl | (show _ = _; simp only [hβ6]; done) | (show _ = _; simp only [hβ6]; rfl)), Ext.refl _⟩
  refine RW_d _ rfl (fun v => by dsimp only [List.set]; try rfl) (fun u hu hF => ?_) (fun v40 => ?_)
  · have h23_ : v37 = (Bo β5) := hF.1
    have h25_ : β5 = true → v39 = (Bo β6) := hF.2.1
    clear hF
    refine doesG_un rfl ?_
    skip
    obtain rfl := h23_
    refine (does_pick (b := β5) (u := v39) (v := (Bo false)) (ev rfl) (ev rfl) (ev rfl)).mono ?_; rintro _ _ ⟨rfl, rfl⟩; refine ⟨?_, Ext.refl _⟩; skip
    cases hbb : β5
    all_goals first | (show _ = _; simp only [↓reduceIte, Bool.true_and, Bool.false_and, Bool.true_or, Bool.false_or, Bool.false_eq_true]; done) | (have e_ := h25_ hbb; subst e_; show _ = _; simp only [↓reduceIte, Bool.true_and, Bool.false_and, Bool.true_or, Bool.false_or, Bool.false_eq_true]; done) | rfl | (have e_ := h25_ hbb; subst e_; rfl) | (simp [hbb] at h25_ ⊢; first | done | rfl | (subst h25_; rfl) | simp_all) | (simp [hbb] at h25_ ⊢; done)
  refine RW_fin ?_; intro w41 E42 hP43
  obtain ⟨⟨⟨⟨⟨⟨-, -⟩, -⟩, -⟩, -⟩, -⟩, q44⟩ := hP43
  have X45 := Ext.gr X16 E42
  have q44 : v40 = (Bo (β5 && β6)) := q44
  obtain rfl := q44
  show wpList _ _ _ _ (fr [_, _, _, _, _, _, _, _, _, _, _, _, _, _, _, _, _, _, _, _, _, _, _, _, _, _, _, _, _, _, _, _, _, _, _, _, _]) _
  refine wpList_nil (hK34 _ _ ?_)
  refine wp_cond_split (t := β5 && β6) (ev rfl) (fun c46 => ?_) (fun c46 => ?_)
  · have c46' := c46
    (try simp only [hβ1, hβ2, hβ5, hβ6] at c46')
    (try simp only [icmp, Bool.and_eq_true, Bool.or_eq_true, Bool.and_eq_false_iff, Bool.or_eq_false_iff, Bool.not_eq_true', Bool.not_eq_false', decide_eq_true_eq, decide_eq_false_iff_not, beq_iff_eq, bne_iff_ne, beq_eq_false_iff_ne, bne_eq_false_iff_eq] at c46')
    refine wp_seq_k fun K47 hK47 => ?_
    refine wp_region_lit ?_
    refine q_is rfl rfl (does_move (u := (Fd x)) (ev rfl)) (by dsimp only [List.set]; try rfl) ?_
    refine seqd rfl rfl (does_float (.inr (.inr (.inr rfl))) (ev rfl) (ev rfl)) ?_; rintro _ w51 ⟨r48, rfl, h49, E50⟩
    have X52 := Ext.gr X45 E50
    show wpList _ _ _ _ (fr [_, _, _, _, _, _, _, _, _, _, _, _, _, _, _, _, _, _, _, _, _, _, _, _, _, _, _, _, _, _, _, _, _, _, _, _, _]) _
    refine q_is rfl rfl (does_fcmp (.inr (.inr (.inr (.inr (.inl rfl))))) (ev rfl) (ev rfl)) (by dsimp only [List.set]; try rfl) ?_
    refine q_is rfl rfl (does_move (u := (Fd y)) (ev rfl)) (by dsimp only [List.set]; try rfl) ?_
    refine seqd rfl rfl (does_float (.inr (.inr (.inr rfl))) (ev rfl) (ev rfl)) ?_; rintro _ w56 ⟨r53, rfl, h54, E55⟩
    have X57 := Ext.gr X52 E55
    show wpList _ _ _ _ (fr [_, _, _, _, _, _, _, _, _, _, _, _, _, _, _, _, _, _, _, _, _, _, _, _, _, _, _, _, _, _, _, _, _, _, _, _, _]) _
    refine q_is rfl rfl (does_fcmp (.inr (.inr (.inr (.inr (.inl rfl))))) (ev rfl) (ev rfl)) (by dsimp only [List.set]; try rfl) ?_
    refine q_is rfl rfl (does_beq (p := (fcmp .gtr (ford .f64 (cf .f64 r48) (cf .f64 0)))) (q := (fcmp .gtr (ford .f64 (cf .f64 r53) (cf .f64 0)))) Try.underlying4 (ev rfl) (ev rfl)) (by dsimp only [List.set]; try rfl) ?_
    refine q_is rfl rfl (does_assign (u := (Bo ((fcmp .gtr (ford .f64 (cf .f64 r48) (cf .f64 0))) == (fcmp .gtr (ford .f64 (cf .f64 r53) (cf .f64 0)))))) (ev rfl)) (by dsimp only [List.set]; try rfl) ?_
    refine wpList_nil (hK47 _ _ ?_)
    refine wp_ret ?_
    dsimp only [Exit.then, Exit.inBlock]
    refine ret_val (v := (Bo ((fcmp .gtr (ford .f64 (cf .f64 r48) (cf .f64 0))) == (fcmp .gtr (ford .f64 (cf .f64 r53) (cf .f64 0)))))) (res_T rfl (slot rfl)) X57 ?_
    try simp only [hβ1, hβ2, hβ5, hβ6, h49, h54] at c17 c46
    have x58 : (sameF (cf .f64 x) (cf .f64 y)) = ((fcmp .gtr (ford .f64 (cf .f64 r48) (cf .f64 0))) == (fcmp .gtr (ford .f64 (cf .f64 r53) (cf .f64 0)))) := by first | with_reducible rfl | (simp only [sameF, hβ1, hβ2, hβ5, hβ6, h49, h54, c17, c46]; done) | (simp [sameF, hβ1, hβ2, hβ5, hβ6, h49, h54, c17, c46]; done) | (revert c17 c46; simp +contextual [sameF, hβ1, hβ2, hβ5, hβ6, h49, h54]; done) | (rcases c17' with hh | hh <;> simp only [hh, sameF, hβ1, hβ2, hβ5, hβ6, h49, h54, c17, c46]; done) | (rcases c46' with hh | hh <;> simp only [hh, sameF, hβ1, hβ2, hβ5, hβ6, h49, h54, c17, c46]; done) | (rcases c46' with hh | hh <;> simp_all [sameF]; done) | (rcases c46' with hh | hh | hh <;> simp_all [sameF]; done) | (rcases c46' with hh | hh | hh | hh <;> simp_all [sameF]; done) | (simp_all [sameF]; done) | rfl
    exact (by first | with_reducible rfl | rw [x58] | rfl)
  have c46' := c46
  (try simp only [hβ1, hβ2, hβ5, hβ6] at c46')
  (try simp only [icmp, Bool.and_eq_true, Bool.or_eq_true, Bool.and_eq_false_iff, Bool.or_eq_false_iff, Bool.not_eq_true', Bool.not_eq_false', decide_eq_true_eq, decide_eq_false_iff_not, beq_iff_eq, bne_iff_ne, beq_eq_false_iff_ne, bne_eq_false_iff_eq] at c46')
  refine wp_skip (hK33 _ _ ?_)
  refine wp_seq_k fun K59 hK59 => ?_
  refine wp_region_lit ?_
  refine q_is rfl rfl (does_move (u := (Fd x)) (ev rfl)) (by dsimp only [List.set]; try rfl) ?_
  refine q_is rfl rfl (does_move (u := (Fd y)) (ev rfl)) (by dsimp only [List.set]; try rfl) ?_
  refine q_is rfl rfl (does_fcmp (.inl rfl) (ev rfl) (ev rfl)) (by dsimp only [List.set]; try rfl) ?_
  refine q_is rfl rfl (does_assign (u := (Bo (fcmp .eql (ford .f64 (cf .f64 x) (cf .f64 y))))) (ev rfl)) (by dsimp only [List.set]; try rfl) ?_
  refine wpList_nil (hK59 _ _ ?_)
  refine wp_ret ?_
  refine ret_val (v := (Bo (fcmp .eql (ford .f64 (cf .f64 x) (cf .f64 y))))) (res_T rfl (slot rfl)) X45 ?_
  try simp only [hβ1, hβ2, hβ5, hβ6] at c17 c46
  have x60 : (sameF (cf .f64 x) (cf .f64 y)) = (fcmp .eql (ford .f64 (cf .f64 x) (cf .f64 y))) := by first | with_reducible rfl | (simp only [sameF, hβ1, hβ2, hβ5, hβ6, c17, c46]; done) | (simp [sameF, hβ1, hβ2, hβ5, hβ6, c17, c46]; done) | (revert c17 c46; simp +contextual [sameF, hβ1, hβ2, hβ5, hβ6]; done) | (rcases c17' with hh | hh <;> simp only [hh, sameF, hβ1, hβ2, hβ5, hβ6, c17, c46]; done) | (rcases c46' with hh | hh <;> simp only [hh, sameF, hβ1, hβ2, hβ5, hβ6, c17, c46]; done) | (rcases c46' with hh | hh <;> simp_all [sameF]; done) | (rcases c46' with hh | hh | hh <;> simp_all [sameF]; done) | (rcases c46' with hh | hh | hh | hh <;> simp_all [sameF]; done) | (simp_all [sameF]; done) | rfl
  exact (by first | with_reducible rfl | rw [x60] | rfl)

/- laws.eqVector -/
theorem c_laws_eqVector (a : List Value) (A_a : V3) (b : List Value) (A_b : V3) (w : World) (hv_a : RV3 w A_a a) (hv_b : RV3 w A_b b) : Gives Try.prog 15 #[(.agg a.toArray), (.agg b.toArray)] w (fun v w' => v = (Bo (sameV A_a A_b))) := by
  obtain ⟨r1, r3, r5, rfl, h2, h4, h6⟩ := hv_a
  obtain ⟨r7, r9, r11, rfl, h8, h10, h12⟩ := hv_b
  refine enter [(.agg #[(Fl r1), (Fl r3), (Fl r5)]), (.agg #[(Fl r7), (Fl r9), (Fl r11)]), Ud, Ud, Ud, Ud, Ud, Ud, Ud, Ud, Ud, Ud, Ud, Ud, Ud, Ud, Ud, Ud, Ud, Ud, Ud, Ud, Ud, Ud, Ud, Ud, Ud, Ud, Ud] Try.func15 rfl Try.ntmps15 rfl ?_
  refine wp_seq_k fun K13 hK13 => ?_
  refine wp_region_lit ?_
  refine seqd rfl rfl (does_box (u := (.agg #[(Fl r1), (Fl r3), (Fl r5)])) (ev rfl)) ?_; rintro _ w18 ⟨b14, rfl, hb15, hB16, E17⟩
  have g19 : w.heap.size ≤ b14 := Nat.le_trans (Below.size (Ext.refl w)) hb15
  change Blk _ _ [(Fl r1), (Fl r3), (Fl r5)] at hB16
  have X20 := Ext.gr (Ext.refl w) E17
  show wpList _ _ _ _ (fr [_, _, _, _, _, _, _, _, _, _, _, _, _, _, _, _, _, _, _, _, _, _, _, _, _, _, _, _, _]) _
  refine seqd rfl rfl (does_box (u := (.agg #[(Fl r7), (Fl r9), (Fl r11)])) (ev rfl)) ?_; rintro _ w25 ⟨b21, rfl, hb22, hB23, E24⟩
  have n26 : b14 < b21 := Nat.lt_of_lt_of_le (Blk.lt hB16) hb22
  have g27 : w.heap.size ≤ b21 := Nat.le_trans (Below.size X20) hb22
  change Blk _ _ [(Fl r7), (Fl r9), (Fl r11)] at hB23
  have X28 := Ext.gr X20 E24
  show wpList _ _ _ _ (fr [_, _, _, _, _, _, _, _, _, _, _, _, _, _, _, _, _, _, _, _, _, _, _, _, _, _, _, _, _]) _
  refine q_is rfl rfl (does_assign (u := (Bo false)) (ev rfl)) (by dsimp only [List.set]; try rfl) ?_
  refine wpList_nil (hK13 _ _ ?_)
  refine wp_seq_k fun K29 hK29 => ?_
  refine wp_seq_k fun K30 hK30 => ?_
  refine wp_region_lit ?_
  refine q_is rfl rfl (does_fieldAddr (ev rfl) fa40_0) (by dsimp only [List.set]; try rfl) ?_
  refine q_is rfl rfl (does_load (u := (Fl r1)) (ev rfl) Try.isAgg38 (Cells.at (Blk.cells (hB16.ext E24)) 0 rfl)) (by dsimp only [List.set]; try rfl) ?_
  refine seqd rfl rfl (does_widen Try.underlying38 Try.underlying84 (ev rfl)) ?_; rintro _ w34 ⟨r31, rfl, h32, E33⟩
  have X35 := Ext.gr X28 E33
  show wpList _ _ _ _ (fr [_, _, _, _, _, _, _, _, _, _, _, _, _, _, _, _, _, _, _, _, _, _, _, _, _, _, _, _, _]) _
  refine q_is rfl rfl (does_fieldAddr (ev rfl) fa40_0) (by dsimp only [List.set]; try rfl) ?_
  refine q_is rfl rfl (does_load (u := (Fl r7)) (ev rfl) Try.isAgg38 (Cells.at (Blk.cells (hB23.ext E33)) 0 rfl)) (by dsimp only [List.set]; try rfl) ?_
  refine seqd rfl rfl (does_widen Try.underlying38 Try.underlying84 (ev rfl)) ?_; rintro _ w39 ⟨r36, rfl, h37, E38⟩
  have X40 := Ext.gr X35 E38
  show wpList _ _ _ _ (fr [_, _, _, _, _, _, _, _, _, _, _, _, _, _, _, _, _, _, _, _, _, _, _, _, _, _, _, _, _]) _
  refine seqd rfl rfl (does_call (args := #[(Fd r31), (Fd r36)]) cal37 (evs rfl) (c_laws_sameFloat r31 r36 _)) ?_; rintro _ w42 ⟨E41, rfl⟩
  have X43 := Ext.gr X40 E41
  show wpList _ _ _ _ (fr [_, _, _, _, _, _, _, _, _, _, _, _, _, _, _, _, _, _, _, _, _, _, _, _, _, _, _, _, _]) _
  refine q_is rfl rfl (does_not (ev rfl)) (by dsimp only [List.set]; try rfl) ?_
  refine wpList_nil (hK30 _ _ ?_)
  refine wp_cond_split (t := !(sameF (cf .f64 r31) (cf .f64 r36))) (ev rfl) (fun c44 => ?_) (fun c44 => ?_)
  · rw [Bool.not_eq_true'] at c44
    have c44' := c44
    refine wp_seq_k fun K45 hK45 => ?_
    refine wp_region_lit ?_
    refine q_is rfl rfl (does_assign (u := (Bo false)) (ev rfl)) (by dsimp only [List.set]; try rfl) ?_
    refine wpList_nil (hK45 _ _ ?_)
    refine wp_ret ?_
    dsimp only [Exit.then, Exit.inBlock]
    refine ret_val (v := (Bo false)) (res_T rfl (slot rfl)) X43 ?_
    try simp only [h2, h4, h6, h8, h10, h12, h32, h37] at c44
    have x46 : (sameV A_a A_b) = false := by first | with_reducible rfl | (simp only [sameV, h2, h4, h6, h8, h10, h12, h32, h37, c44]; done) | (simp [sameV, h2, h4, h6, h8, h10, h12, h32, h37, c44]; done) | (revert c44; simp +contextual [sameV, h2, h4, h6, h8, h10, h12, h32, h37]; done) | (rcases c44' with hh | hh <;> simp only [hh, sameV, h2, h4, h6, h8, h10, h12, h32, h37, c44]; done) | (rcases c44' with hh | hh <;> simp_all [sameV]; done) | (rcases c44' with hh | hh | hh <;> simp_all [sameV]; done) | (rcases c44' with hh | hh | hh | hh <;> simp_all [sameV]; done) | (simp_all [sameV]; done) | rfl
    exact (by first | with_reducible rfl | rw [x46] | rfl)
  rw [Bool.not_eq_false'] at c44
  have c44' := c44
  refine wp_skip (hK29 _ _ ?_)
  refine wp_seq_k fun K47 hK47 => ?_
  refine wp_seq_k fun K48 hK48 => ?_
  refine wp_region_lit ?_
  refine q_is rfl rfl (does_fieldAddr (ev rfl) fa40_1) (by dsimp only [List.set]; try rfl) ?_
  refine q_is rfl rfl (does_load (u := (Fl r3)) (ev rfl) Try.isAgg38 (Cells.at (Blk.cells ((((hB16.ext E24).ext E33).ext E38).ext E41)) 1 rfl)) (by dsimp only [List.set]; try rfl) ?_
  refine seqd rfl rfl (does_widen Try.underlying38 Try.underlying84 (ev rfl)) ?_; rintro _ w52 ⟨r49, rfl, h50, E51⟩
  have X53 := Ext.gr X43 E51
  show wpList _ _ _ _ (fr [_, _, _, _, _, _, _, _, _, _, _, _, _, _, _, _, _, _, _, _, _, _, _, _, _, _, _, _, _]) _
  refine q_is rfl rfl (does_fieldAddr (ev rfl) fa40_1) (by dsimp only [List.set]; try rfl) ?_
  refine q_is rfl rfl (does_load (u := (Fl r9)) (ev rfl) Try.isAgg38 (Cells.at (Blk.cells ((((hB23.ext E33).ext E38).ext E41).ext E51)) 1 rfl)) (by dsimp only [List.set]; try rfl) ?_
  refine seqd rfl rfl (does_widen Try.underlying38 Try.underlying84 (ev rfl)) ?_; rintro _ w57 ⟨r54, rfl, h55, E56⟩
  have X58 := Ext.gr X53 E56
  show wpList _ _ _ _ (fr [_, _, _, _, _, _, _, _, _, _, _, _, _, _, _, _, _, _, _, _, _, _, _, _, _, _, _, _, _]) _
  refine seqd rfl rfl (does_call (args := #[(Fd r49), (Fd r54)]) cal37 (evs rfl) (c_laws_sameFloat r49 r54 _)) ?_; rintro _ w60 ⟨E59, rfl⟩
  have X61 := Ext.gr X58 E59
  show wpList _ _ _ _ (fr [_, _, _, _, _, _, _, _, _, _, _, _, _, _, _, _, _, _, _, _, _, _, _, _, _, _, _, _, _]) _
  refine q_is rfl rfl (does_not (ev rfl)) (by dsimp only [List.set]; try rfl) ?_
  refine wpList_nil (hK48 _ _ ?_)
  refine wp_cond_split (t := !(sameF (cf .f64 r49) (cf .f64 r54))) (ev rfl) (fun c62 => ?_) (fun c62 => ?_)
  · rw [Bool.not_eq_true'] at c62
    have c62' := c62
    refine wp_seq_k fun K63 hK63 => ?_
    refine wp_region_lit ?_
    refine q_is rfl rfl (does_assign (u := (Bo false)) (ev rfl)) (by dsimp only [List.set]; try rfl) ?_
    refine wpList_nil (hK63 _ _ ?_)
    refine wp_ret ?_
    dsimp only [Exit.then, Exit.inBlock]
    refine ret_val (v := (Bo false)) (res_T rfl (slot rfl)) X61 ?_
    try simp only [h2, h4, h6, h8, h10, h12, h32, h37, h50, h55] at c44 c62
    have x64 : (sameV A_a A_b) = false := by first | with_reducible rfl | (simp only [sameV, h2, h4, h6, h8, h10, h12, h32, h37, h50, h55, c44, c62]; done) | (simp [sameV, h2, h4, h6, h8, h10, h12, h32, h37, h50, h55, c44, c62]; done) | (revert c44 c62; simp +contextual [sameV, h2, h4, h6, h8, h10, h12, h32, h37, h50, h55]; done) | (rcases c44' with hh | hh <;> simp only [hh, sameV, h2, h4, h6, h8, h10, h12, h32, h37, h50, h55, c44, c62]; done) | (rcases c62' with hh | hh <;> simp only [hh, sameV, h2, h4, h6, h8, h10, h12, h32, h37, h50, h55, c44, c62]; done) | (rcases c62' with hh | hh <;> simp_all [sameV]; done) | (rcases c62' with hh | hh | hh <;> simp_all [sameV]; done) | (rcases c62' with hh | hh | hh | hh <;> simp_all [sameV]; done) | (simp_all [sameV]; done) | rfl
    exact (by first | with_reducible rfl | rw [x64] | rfl)
  rw [Bool.not_eq_false'] at c62
  have c62' := c62
  refine wp_skip (hK47 _ _ ?_)
  refine wp_seq_k fun K65 hK65 => ?_
  refine wp_seq_k fun K66 hK66 => ?_
  refine wp_region_lit ?_
  refine q_is rfl rfl (does_fieldAddr (ev rfl) fa40_2) (by dsimp only [List.set]; try rfl) ?_
  refine q_is rfl rfl (does_load (u := (Fl r5)) (ev rfl) Try.isAgg38 (Cells.at (Blk.cells (((((((hB16.ext E24).ext E33).ext E38).ext E41).ext E51).ext E56).ext E59)) 2 rfl)) (by dsimp only [List.set]; try rfl) ?_
  refine seqd rfl rfl (does_widen Try.underlying38 Try.underlying84 (ev rfl)) ?_; rintro _ w70 ⟨r67, rfl, h68, E69⟩
  have X71 := Ext.gr X61 E69
  show wpList _ _ _ _ (fr [_, _, _, _, _, _, _, _, _, _, _, _, _, _, _, _, _, _, _, _, _, _, _, _, _, _, _, _, _]) _
  refine q_is rfl rfl (does_fieldAddr (ev rfl) fa40_2) (by dsimp only [List.set]; try rfl) ?_
  refine q_is rfl rfl (does_load (u := (Fl r11)) (ev rfl) Try.isAgg38 (Cells.at (Blk.cells (((((((hB23.ext E33).ext E38).ext E41).ext E51).ext E56).ext E59).ext E69)) 2 rfl)) (by dsimp only [List.set]; try rfl) ?_
  refine seqd rfl rfl (does_widen Try.underlying38 Try.underlying84 (ev rfl)) ?_; rintro _ w75 ⟨r72, rfl, h73, E74⟩
  have X76 := Ext.gr X71 E74
  show wpList _ _ _ _ (fr [_, _, _, _, _, _, _, _, _, _, _, _, _, _, _, _, _, _, _, _, _, _, _, _, _, _, _, _, _]) _
  refine seqd rfl rfl (does_call (args := #[(Fd r67), (Fd r72)]) cal37 (evs rfl) (c_laws_sameFloat r67 r72 _)) ?_; rintro _ w78 ⟨E77, rfl⟩
  have X79 := Ext.gr X76 E77
  show wpList _ _ _ _ (fr [_, _, _, _, _, _, _, _, _, _, _, _, _, _, _, _, _, _, _, _, _, _, _, _, _, _, _, _, _]) _
  refine q_is rfl rfl (does_not (ev rfl)) (by dsimp only [List.set]; try rfl) ?_
  refine wpList_nil (hK66 _ _ ?_)
  refine wp_cond_split (t := !(sameF (cf .f64 r67) (cf .f64 r72))) (ev rfl) (fun c80 => ?_) (fun c80 => ?_)
  · rw [Bool.not_eq_true'] at c80
    have c80' := c80
    refine wp_seq_k fun K81 hK81 => ?_
    refine wp_region_lit ?_
    refine q_is rfl rfl (does_assign (u := (Bo false)) (ev rfl)) (by dsimp only [List.set]; try rfl) ?_
    refine wpList_nil (hK81 _ _ ?_)
    refine wp_ret ?_
    dsimp only [Exit.then, Exit.inBlock]
    refine ret_val (v := (Bo false)) (res_T rfl (slot rfl)) X79 ?_
    try simp only [h2, h4, h6, h8, h10, h12, h32, h37, h50, h55, h68, h73] at c44 c62 c80
    have x82 : (sameV A_a A_b) = false := by first | with_reducible rfl | (simp only [sameV, h2, h4, h6, h8, h10, h12, h32, h37, h50, h55, h68, h73, c44, c62, c80]; done) | (simp [sameV, h2, h4, h6, h8, h10, h12, h32, h37, h50, h55, h68, h73, c44, c62, c80]; done) | (revert c44 c62 c80; simp +contextual [sameV, h2, h4, h6, h8, h10, h12, h32, h37, h50, h55, h68, h73]; done) | (rcases c44' with hh | hh <;> simp only [hh, sameV, h2, h4, h6, h8, h10, h12, h32, h37, h50, h55, h68, h73, c44, c62, c80]; done) | (rcases c62' with hh | hh <;> simp only [hh, sameV, h2, h4, h6, h8, h10, h12, h32, h37, h50, h55, h68, h73, c44, c62, c80]; done) | (rcases c80' with hh | hh <;> simp only [hh, sameV, h2, h4, h6, h8, h10, h12, h32, h37, h50, h55, h68, h73, c44, c62, c80]; done) | (rcases c80' with hh | hh <;> simp_all [sameV]; done) | (rcases c80' with hh | hh | hh <;> simp_all [sameV]; done) | (rcases c80' with hh | hh | hh | hh <;> simp_all [sameV]; done) | (simp_all [sameV]; done) | rfl
    exact (by first | with_reducible rfl | rw [x82] | rfl)
  rw [Bool.not_eq_false'] at c80
  have c80' := c80
  refine wp_skip (hK65 _ _ ?_)
  refine wp_seq_k fun K83 hK83 => ?_
  refine wp_region_lit ?_
  refine q_is rfl rfl (does_assign (u := (Bo true)) (ev rfl)) (by dsimp only [List.set]; try rfl) ?_
  refine wpList_nil (hK83 _ _ ?_)
  refine wp_ret ?_
  refine ret_val (v := (Bo true)) (res_T rfl (slot rfl)) X79 ?_
  try simp only [h2, h4, h6, h8, h10, h12, h32, h37, h50, h55, h68, h73] at c44 c62 c80
  have x84 : (sameV A_a A_b) = true := by first | with_reducible rfl | (simp only [sameV, h2, h4, h6, h8, h10, h12, h32, h37, h50, h55, h68, h73, c44, c62, c80]; done) | (simp [sameV, h2, h4, h6, h8, h10, h12, h32, h37, h50, h55, h68, h73, c44, c62, c80]; done) | (revert c44 c62 c80; simp +contextual [sameV, h2, h4, h6, h8, h10, h12, h32, h37, h50, h55, h68, h73]; done) | (rcases c44' with hh | hh <;> simp only [hh, sameV, h2, h4, h6, h8, h10, h12, h32, h37, h50, h55, h68, h73, c44, c62, c80]; done) | (rcases c62' with hh | hh <;> simp only [hh, sameV, h2, h4, h6, h8, h10, h12, h32, h37, h50, h55, h68, h73, c44, c62, c80]; done) | (rcases c80' with hh | hh <;> simp only [hh, sameV, h2, h4, h6, h8, h10, h12, h32, h37, h50, h55, h68, h73, c44, c62, c80]; done) | (rcases c80' with hh | hh <;> simp_all [sameV]; done) | (rcases c80' with hh | hh | hh <;> simp_all [sameV]; done) | (rcases c80' with hh | hh | hh | hh <;> simp_all [sameV]; done) | (simp_all [sameV]; done) | rfl
  exact (by first | with_reducible rfl | rw [x84] | rfl)

/- laws.eqFloat32S -/
theorem c_laws_eqFloat32S (a : Value) (L_a : List Nat) (b : Value) (L_b : List Nat) (w : World) (hv_a : Sl RF 1 w a L_a) (hv_b : Sl RF 1 w b L_b) : Gives Try.prog 90 #[a, b] w (fun v w' => v = (Bo (sameL L_a L_b))) := by
  have hlen_a := Sl.len hv_a; obtain ⟨p_a, q_a, rfl⟩ := Sl.shape hv_a
  have hlen_b := Sl.len hv_b; obtain ⟨p_b, q_b, rfl⟩ := Sl.shape hv_b
  refine enter [(.slice p_a L_a.length q_a), (.slice p_b L_b.length q_b), Ud, Ud, Ud, Ud, Ud, Ud, Ud, Ud, Ud, Ud, Ud, Ud, Ud, Ud, Ud, Ud, Ud, Ud, Ud, Ud, Ud, Ud, Ud, Ud, Ud, Ud, Ud] Try.func90 rfl Try.ntmps90 rfl ?_
  refine wp_seq_k fun K1 hK1 => ?_
  refine wp_region_lit ?_
  refine q_is rfl rfl (does_assign (u := (Bo false)) (ev rfl)) (by dsimp only [List.set]; try rfl) ?_
  refine wpList_nil (hK1 _ _ ?_)
  refine wp_seq_k fun K2 hK2 => ?_
  refine wp_seq_k fun K3 hK3 => ?_
  refine wp_region_lit ?_
  refine q_is rfl rfl (does_move (u := (.slice p_a L_a.length q_a)) (ev rfl)) (by dsimp only [List.set]; try rfl) ?_
  refine q_is rfl rfl (does_len_slice Try.underlying97 (ev rfl)) (by dsimp only [List.set]; try rfl) ?_
  refine q_is rfl rfl (does_move (u := (.slice p_b L_b.length q_b)) (ev rfl)) (by dsimp only [List.set]; try rfl) ?_
  refine q_is rfl rfl (does_len_slice Try.underlying97 (ev rfl)) (by dsimp only [List.set]; try rfl) ?_
  refine q_is rfl rfl (does_icmp (p := (L_a.length : Int)) (q := (L_b.length : Int)) (.inr (.inl rfl)) (ev rfl) (ev rfl)) (by dsimp only [List.set]; try rfl) ?_
  refine wpList_nil (hK3 _ _ ?_)
  refine wp_cond_split (t := icmp .neq (L_a.length : Int) (L_b.length : Int)) (ev rfl) (fun c4 => ?_) (fun c4 => ?_)
  · have c4' := c4
    (try simp only [icmp, Bool.and_eq_true, Bool.or_eq_true, Bool.and_eq_false_iff, Bool.or_eq_false_iff, Bool.not_eq_true', Bool.not_eq_false', decide_eq_true_eq, decide_eq_false_iff_not, beq_iff_eq, bne_iff_ne, beq_eq_false_iff_ne, bne_eq_false_iff_eq] at c4')
    refine wp_seq_k fun K5 hK5 => ?_
    refine wp_region_lit ?_
    refine q_is rfl rfl (does_assign (u := (Bo false)) (ev rfl)) (by dsimp only [List.set]; try rfl) ?_
    refine wpList_nil (hK5 _ _ ?_)
    refine wp_ret ?_
    dsimp only [Exit.then, Exit.inBlock]
    refine ret_val (v := (Bo false)) (res_T rfl (slot rfl)) (Ext.refl w) ?_
    have x6 : (sameL L_a L_b) = false := by first | exact (sameL_len (by omega)) | exact (sameL_not (by omega) (by assumption) (by assumption) (by simp_all)) | exact (sameL_all (by omega) (by omega) hs)
    exact (by first | with_reducible rfl | rw [x6] | rfl)
  have c4' := c4
  (try simp only [icmp, Bool.and_eq_true, Bool.or_eq_true, Bool.and_eq_false_iff, Bool.or_eq_false_iff, Bool.not_eq_true', Bool.not_eq_false', decide_eq_true_eq, decide_eq_false_iff_not, beq_iff_eq, bne_iff_ne, beq_eq_false_iff_ne, bne_eq_false_iff_eq] at c4')
  refine wp_skip (hK2 _ _ ?_)
  refine wp_seq_k fun K7 hK7 => ?_
  refine wp_seq_k fun K8 hK8 => ?_
  refine wp_region_lit ?_
  refine q_is rfl rfl (does_assign (u := (Iv 0)) (ev rfl)) (by dsimp only [List.set]; try rfl) ?_
  refine wpList_nil (hK8 _ _ ?_)
  refine wp_block ?_
  refine loop_ghost (σ := Nat) (fun k a w' => ∃ u9 : Nat → Value, a = fr [(.slice p_a L_a.length q_a), (.slice p_b L_b.length q_b), Ud, Ud, (u9 4), (Iv (k : Int)), (.slice p_a L_a.length q_a), (Iv (L_a.length : Int)), (.slice p_b L_b.length q_b), (Iv (L_b.length : Int)), (Bo (icmp .neq (L_a.length : Int) (L_b.length : Int))), (u9 11), (u9 12), (u9 13), (u9 14), (u9 15), (u9 16), (u9 17), (u9 18), (u9 19), (u9 20), (u9 21), (u9 22), (u9 23), (u9 24), (u9 25), (u9 26), (u9 27), (u9 28)] ∧ Ext w w' ∧ (k ≤ L_a.length ∧ SameTo L_a L_b k)) (fun k => L_a.length - k) 0 ?_ ?_
  · refine ⟨fun t => (([(.slice p_a L_a.length q_a), (.slice p_b L_b.length q_b), Ud, Ud, (Bo false), (Iv 0), (.slice p_a L_a.length q_a), (Iv (L_a.length : Int)), (.slice p_b L_b.length q_b), (Iv (L_b.length : Int)), (Bo (icmp .neq (L_a.length : Int) (L_b.length : Int))), Ud, Ud, Ud, Ud, Ud, Ud, Ud, Ud, Ud, Ud, Ud, Ud, Ud, Ud, Ud, Ud, Ud, Ud] : List Value)[t]?).getD undef, rfl, Ext.refl _, ?_⟩
    exact ⟨Nat.zero_le _, SameTo.zero⟩
  · rintro k a w10 ⟨u9, rfl, E11, ⟨hk, hs⟩⟩
    have X13 := Ext.gr (Ext.refl w) E11
    refine wp_seq_k fun K14 hK14 => ?_
    refine wp_seq_k fun K15 hK15 => ?_
    refine wp_region_lit ?_
    refine q_is rfl rfl (does_move (u := (Iv (k : Int))) (ev rfl)) (by dsimp only [List.set]; try rfl) ?_
    refine q_is rfl rfl (does_move (u := (.slice p_a L_a.length q_a)) (ev rfl)) (by dsimp only [List.set]; try rfl) ?_
    refine q_is rfl rfl (does_len_slice Try.underlying97 (ev rfl)) (by dsimp only [List.set]; try rfl) ?_
    refine q_is rfl rfl (does_icmp (p := (k : Int)) (q := (L_a.length : Int)) (.inr (.inr (.inl rfl))) (ev rfl) (ev rfl)) (by dsimp only [List.set]; try rfl) ?_
    refine wpList_nil (hK15 _ _ ?_)
    refine wp_cond_split (t := icmp .lss (k : Int) (L_a.length : Int)) (ev rfl) (fun c16 => ?_) (fun c16 => ?_)
    · have c16' := c16
      (try simp only [icmp, Bool.and_eq_true, Bool.or_eq_true, Bool.and_eq_false_iff, Bool.or_eq_false_iff, Bool.not_eq_true', Bool.not_eq_false', decide_eq_true_eq, decide_eq_false_iff_not, beq_iff_eq, bne_iff_ne, beq_eq_false_iff_ne, bne_eq_false_iff_eq] at c16')
      refine wp_skip (hK14 _ _ ?_)
      refine wp_seq_k fun K17 hK17 => ?_
      refine wp_block ?_
      refine wp_seq_k fun K18 hK18 => ?_
      obtain ⟨el1, hel1⟩ : ∃ e, L_a[k]? = some e := ⟨_, List.getElem?_eq_getElem (by omega)⟩
      obtain ⟨el2, hel2⟩ : ∃ e, L_b[k]? = some e := ⟨_, List.getElem?_eq_getElem (by omega)⟩
      obtain ⟨β1, hβ1⟩ : ∃ b : Bool, b = (sameF (fwid el1) (fwid el2)) := ⟨_, rfl⟩
      refine region_draw (
        [Fact.pure [] (fun v => v = (.slice p_a L_a.length q_a)),
    Fact.pure [] (fun v => v = (Iv (k : Int))),
    Fact.mem [17, 18] (fun v w' => PtrR RF w' v el1) (by intro v w1 w2 hx h; exact h.ext RF.mono hx),
    Fact.pure [19] (fun v => ∃ r_1 : Nat, v = (Fl r_1) ∧ cf .f32 r_1 = el1),
    Fact.pure [20] (fun v => ∃ r_1 : Nat, v = (Fd r_1) ∧ cf .f64 r_1 = fwid el1),
    Fact.pure [] (fun v => v = (.slice p_b L_b.length q_b)),
    Fact.pure [] (fun v => v = (Iv (k : Int))),
    Fact.mem [22, 23] (fun v w' => PtrR RF w' v el2) (by intro v w1 w2 hx h; exact h.ext RF.mono hx),
    Fact.pure [24] (fun v => ∃ r_1 : Nat, v = (Fl r_1) ∧ cf .f32 r_1 = el2),
    Fact.pure [25] (fun v => ∃ r_1 : Nat, v = (Fd r_1) ∧ cf .f64 r_1 = fwid el2),
    Fact.pure [21, 26] (fun v => v = (Bo β1)),
    Fact.pure [27] (fun v => v = (Bo (!β1)))]) mixed (by kernel_rfl) (by intro _ _ d _ _ h; cases d <;> exact h) ?_
      obtain ⟨w19, hw21⟩ : ∃ w', w' = World.drew w10 := ⟨_, rfl⟩; rw [← hw21]; have E20 : Ext w10 w19 := by rw [hw21]; exact Ext.draw _
      clear hw21
      have X22 := Ext.gr X13 E20
      refine RW_d _ rfl (fun v => by dsimp only [List.set]; try rfl) (fun u hu hF => ?_) (fun v23 => ?_)
      · clear hF
        refine doesG_un rfl ?_
        refine (does_move (u := (.slice p_a L_a.length q_a)) (ev rfl)).mono ?_; rintro _ _ ⟨rfl, rfl⟩
        exact ⟨rfl, Ext.refl _⟩
      refine RW_d _ rfl (fun v => by dsimp only [List.set]; try rfl) (fun u hu hF => ?_) (fun v24 => ?_)
      · clear hF
        refine doesG_un rfl ?_
        refine (does_move (u := (Iv (k : Int))) (ev rfl)).mono ?_; rintro _ _ ⟨rfl, rfl⟩
        exact ⟨rfl, Ext.refl _⟩
      refine RW_d _ rfl (fun v => by dsimp only [List.set]; try rfl) (fun u hu hF => ?_) (fun v25 => ?_)
      · have h17_ : v23 = (.slice p_a L_a.length q_a) := hF.1
        have h18_ : v24 = (Iv (k : Int)) := hF.2.1
        clear hF
        refine doesG_un rfl ?_
        obtain rfl := h17_
        obtain rfl := h18_
        refine (does_indexSl (R := RF) (i := (k : Int)) (xs := L_a) (e := el1) Try.underlying97 Try.sizeOf38 (ev rfl) (ev rfl) (Sl.ext (Sl.ext hv_a RF.mono (Ext.gr X13 E20)) RF.mono hu) (by omega) hel1).mono ?_; rintro v u' ⟨b, of, cs, hv, hc, hR, hu'⟩; subst hu'
        exact ⟨⟨b, of, cs, hv, hc, hR⟩, Ext.refl _⟩
      refine RW_d _ rfl (fun v => by dsimp only [List.set]; try rfl) (fun u hu hF => ?_) (fun v26 => ?_)
      · have h19_ : PtrR RF u v25 el1 := hF.1
        clear hF
        refine doesG_un rfl ?_
        obtain ⟨b19_, o19_, _, rfl, hc19_, ⟨r19_1, rfl, h19_2⟩⟩ := h19_
        refine (does_load (u := (Fl r19_1)) (ev rfl) Try.isAgg38 (Cells.at hc19_ 0 rfl)).mono ?_; rintro _ _ ⟨rfl, rfl⟩
        exact ⟨⟨r19_1, rfl, (by simp only [h19_2])⟩, Ext.refl _⟩
      refine RW_d _ rfl (fun v => by dsimp only [List.set]; try rfl) (fun u hu hF => ?_) (fun v27 => ?_)
      · have h20_ : ∃ r_1 : Nat, v26 = (Fl r_1) ∧ cf .f32 r_1 = el1 := hF.1
        clear hF
        refine doesG_un rfl ?_
        obtain ⟨r20_1, rfl, h20_2⟩ := h20_
        refine (does_widen Try.underlying38 Try.underlying84 (ev rfl)).mono ?_; rintro _ _ ⟨r, rfl, hr, hx⟩
        exact ⟨⟨r, rfl, (by simp only [hr, h20_2])⟩, hx⟩
      refine RW_d _ rfl (fun v => by dsimp only [List.set]; try rfl) (fun u hu hF => ?_) (fun v28 => ?_)
      · clear hF
        refine doesG_un rfl ?_
        refine (does_move (u := (.slice p_b L_b.length q_b)) (ev rfl)).mono ?_; rintro _ _ ⟨rfl, rfl⟩
        exact ⟨rfl, Ext.refl _⟩
      refine RW_d _ rfl (fun v => by dsimp only [List.set]; try rfl) (fun u hu hF => ?_) (fun v29 => ?_)
      · clear hF
        refine doesG_un rfl ?_
        refine (does_move (u := (Iv (k : Int))) (ev rfl)).mono ?_; rintro _ _ ⟨rfl, rfl⟩
        exact ⟨rfl, Ext.refl _⟩
      refine RW_d _ rfl (fun v => by dsimp only [List.set]; try rfl) (fun u hu hF => ?_) (fun v30 => ?_)
      · have h22_ : v28 = (.slice p_b L_b.length q_b) := hF.1
        have h23_ : v29 = (Iv (k : Int)) := hF.2.1
        clear hF
        refine doesG_un rfl ?_
        obtain rfl := h22_
        obtain rfl := h23_
        refine (does_indexSl (R := RF) (i := (k : Int)) (xs := L_b) (e := el2) Try.underlying97 Try.sizeOf38 (ev rfl) (ev rfl) (Sl.ext (Sl.ext hv_b RF.mono (Ext.gr X13 E20)) RF.mono hu) (by omega) hel2).mono ?_; rintro v u' ⟨b, of, cs, hv, hc, hR, hu'⟩; subst hu'
        exact ⟨⟨b, of, cs, hv, hc, hR⟩, Ext.refl _⟩
      refine RW_d _ rfl (fun v => by dsimp only [List.set]; try rfl) (fun u hu hF => ?_) (fun v31 => ?_)
      · have h24_ : PtrR RF u v30 el2 := hF.1
        clear hF
        refine doesG_un rfl ?_
        obtain ⟨b24_, o24_, _, rfl, hc24_, ⟨r24_1, rfl, h24_2⟩⟩ := h24_
        refine (does_load (u := (Fl r24_1)) (ev rfl) Try.isAgg38 (Cells.at hc24_ 0 rfl)).mono ?_; rintro _ _ ⟨rfl, rfl⟩
        exact ⟨⟨r24_1, rfl, (by simp only [h24_2])⟩, Ext.refl _⟩
      refine RW_d _ rfl (fun v => by dsimp only [List.set]; try rfl) (fun u hu hF => ?_) (fun v32 => ?_)
      · have h25_ : ∃ r_1 : Nat, v31 = (Fl r_1) ∧ cf .f32 r_1 = el2 := hF.1
        clear hF
        refine doesG_un rfl ?_
        obtain ⟨r25_1, rfl, h25_2⟩ := h25_
        refine (does_widen Try.underlying38 Try.underlying84 (ev rfl)).mono ?_; rintro _ _ ⟨r, rfl, hr, hx⟩
        exact ⟨⟨r, rfl, (by simp only [hr, h25_2])⟩, hx⟩
      refine RW_d _ rfl (fun v => by dsimp only [List.set]; try rfl) (fun u hu hF => ?_) (fun v33 => ?_)
      · have h21_ : ∃ r_1 : Nat, v27 = (Fd r_1) ∧ cf .f64 r_1 = fwid el1 := hF.1
        have h26_ : ∃ r_1 : Nat, v32 = (Fd r_1) ∧ cf .f64 r_1 = fwid el2 := hF.2.1
        clear hF
        refine doesG_un rfl ?_
        obtain ⟨r21_1, rfl, h21_2⟩ := h21_
        obtain ⟨r26_1, rfl, h26_2⟩ := h26_
        refine (does_call (args := #[(Fd r21_1), (Fd r26_1)]) cal37 (evs rfl) (c_laws_sameFloat r21_1 r26_1 _)).mono ?_; rintro v u' ⟨hx, hv⟩
        exact ⟨hv.trans (by simp only [hβ1, h21_2, h26_2]), hx⟩
      refine RW_d _ rfl (fun v => by dsimp only [List.set]; try rfl) (fun u hu hF => ?_) (fun v34 => ?_)
      · have h27_ : v33 = (Bo β1) := hF.1
        clear hF
        refine doesG_un rfl ?_
        obtain rfl := h27_
        refine (does_not (ev rfl)).mono ?_; rintro _ _ ⟨rfl, rfl⟩
        exact ⟨rfl, Ext.refl _⟩
      refine RW_fin ?_; intro w35 E36 hP37
      obtain ⟨⟨⟨⟨⟨⟨⟨⟨⟨⟨⟨⟨-, -⟩, -⟩, -⟩, -⟩, -⟩, -⟩, -⟩, -⟩, -⟩, -⟩, -⟩, q38⟩ := hP37
      have X39 := Ext.gr X22 E36
      have q38 : v34 = (Bo (!β1)) := q38
      obtain rfl := q38
      show wpList _ _ _ _ (fr [_, _, _, _, _, _, _, _, _, _, _, _, _, _, _, _, _, _, _, _, _, _, _, _, _, _, _, _, _]) _
      refine wpList_nil (hK18 _ _ ?_)
      refine wp_cond_split (t := !β1) (ev rfl) (fun c40 => ?_) (fun c40 => ?_)
      · rw [Bool.not_eq_true'] at c40
        have c40' := c40
        (try simp only [hβ1] at c40')
        (try simp only [icmp, Bool.and_eq_true, Bool.or_eq_true, Bool.and_eq_false_iff, Bool.or_eq_false_iff, Bool.not_eq_true', Bool.not_eq_false', decide_eq_true_eq, decide_eq_false_iff_not, beq_iff_eq, bne_iff_ne, beq_eq_false_iff_ne, bne_eq_false_iff_eq] at c40')
        refine wp_seq_k fun K41 hK41 => ?_
        refine wp_region_lit ?_
        refine q_is rfl rfl (does_assign (u := (Bo false)) (ev rfl)) (by dsimp only [List.set]; try rfl) ?_
        refine wpList_nil (hK41 _ _ ?_)
        refine wp_ret ?_
        dsimp only [Exit.then, Exit.inBlock]
        refine ret_val (v := (Bo false)) (res_T rfl (slot rfl)) X39 ?_
        try simp only [hβ1, hel1, hel2] at c4 c16 c40
        have x42 : (sameL L_a L_b) = false := by first | exact (sameL_len (by omega)) | exact (sameL_not (by omega) (by assumption) (by assumption) (by simp_all)) | exact (sameL_all (by omega) (by omega) hs)
        exact (by first | with_reducible rfl | rw [x42] | rfl)
      rw [Bool.not_eq_false'] at c40
      have c40' := c40
      (try simp only [hβ1] at c40')
      (try simp only [icmp, Bool.and_eq_true, Bool.or_eq_true, Bool.and_eq_false_iff, Bool.or_eq_false_iff, Bool.not_eq_true', Bool.not_eq_false', decide_eq_true_eq, decide_eq_false_iff_not, beq_iff_eq, bne_iff_ne, beq_eq_false_iff_ne, bne_eq_false_iff_eq] at c40')
      refine wp_skip (hK17 _ _ ?_)
      refine wp_region_lit ?_
      refine q_is rfl rfl (does_move (u := (Iv (k : Int))) (ev rfl)) (by dsimp only [List.set]; try rfl) ?_
      refine q_is rfl rfl (does_iarith (p := (k : Int)) (q := 1) (r := (k : Int) + 1) (ev rfl) (ev rfl) (.inl ⟨rfl, (in_i64 (by omega) (by omega)).symm⟩)) (by dsimp only [List.set]; try rfl) ?_
      refine q_is rfl rfl (does_assign (u := (Iv ((k : Int) + 1))) (ev rfl)) (by dsimp only [List.set]; try rfl) ?_
      refine wpList_nil ?_
      refine ⟨k + 1, ⟨fun t => (([(.slice p_a L_a.length q_a), (.slice p_b L_b.length q_b), Ud, Ud, (u9 4), (Iv ((k : Int) + 1)), (.slice p_a L_a.length q_a), (Iv (L_a.length : Int)), (.slice p_b L_b.length q_b), (Iv (L_b.length : Int)), (Bo (icmp .neq (L_a.length : Int) (L_b.length : Int))), (Iv (k : Int)), (.slice p_a L_a.length q_a), (Iv (L_a.length : Int)), (Bo (icmp .lss (k : Int) (L_a.length : Int))), (Iv (k : Int)), (Iv ((k : Int) + 1)), v23, v24, v25, v26, v27, v28, v29, v30, v31, v32, v33, (Bo (!β1))] : List Value)[t]?).getD undef, ?_, (Ext.gr (Ext.gr E11 E20) E36), ?_⟩, ?_⟩
      · first | rfl | (simp only [Nat.cast_add, Nat.cast_one, Int.natCast_add, Int.natCast_one]; rfl)
      · exact ⟨by omega, SameTo.step hs (by assumption) (by assumption) (by simp_all)⟩
      · omega
    have c16' := c16
    (try simp only [icmp, Bool.and_eq_true, Bool.or_eq_true, Bool.and_eq_false_iff, Bool.or_eq_false_iff, Bool.not_eq_true', Bool.not_eq_false', decide_eq_true_eq, decide_eq_false_iff_not, beq_iff_eq, bne_iff_ne, beq_eq_false_iff_ne, bne_eq_false_iff_eq] at c16')
    refine wp_exit ?_
    refine hK7 _ _ ?_
    refine wp_seq_k fun K43 hK43 => ?_
    refine wp_region_lit ?_
    refine q_is rfl rfl (does_assign (u := (Bo true)) (ev rfl)) (by dsimp only [List.set]; try rfl) ?_
    refine wpList_nil (hK43 _ _ ?_)
    refine wp_ret ?_
    refine ret_val (v := (Bo true)) (res_T rfl (slot rfl)) X13 ?_
    have x44 : (sameL L_a L_b) = true := by first | exact (sameL_len (by omega)) | exact (sameL_not (by omega) (by assumption) (by assumption) (by simp_all)) | exact (sameL_all (by omega) (by omega) hs)
    exact (by first | with_reducible rfl | rw [x44] | rfl)

/- laws.eqNode -/
theorem c_laws_eqNode (a : List Value) (A_a : NodeT) (b : List Value) (A_b : NodeT) (w : World) (hv_a : RNodeT w A_a a) (hv_b : RNodeT w A_b b) : Gives Try.prog 63 #[(.agg a.toArray), (.agg b.toArray)] w (fun v w' => v = (Bo (sameNd A_a A_b))) := by
  obtain ⟨y1, rfl, h2⟩ := hv_a
  obtain ⟨y3, rfl, h4⟩ := hv_b
  have hs7 := h2; have hs7l := Sl.len h2; obtain ⟨p5, q6, rfl⟩ := Sl.shape h2
  have hs10 := h4; have hs10l := Sl.len h4; obtain ⟨p8, q9, rfl⟩ := Sl.shape h4
  refine enter [(.agg #[(Iv A_a.kind), (Iv A_a.a), (Iv A_a.b), (.slice p5 A_a.nums.length q6)]), (.agg #[(Iv A_b.kind), (Iv A_b.a), (Iv A_b.b), (.slice p8 A_b.nums.length q9)]), Ud, Ud, Ud, Ud, Ud, Ud, Ud, Ud, Ud, Ud, Ud, Ud, Ud, Ud, Ud, Ud, Ud, Ud, Ud, Ud, Ud, Ud, Ud, Ud] Try.func63 rfl Try.ntmps63 rfl ?_
  refine wp_seq_k fun K11 hK11 => ?_
  refine wp_region_lit ?_
  refine seqd rfl rfl (does_box (u := (.agg #[(Iv A_a.kind), (Iv A_a.a), (Iv A_a.b), (.slice p5 A_a.nums.length q6)])) (ev rfl)) ?_; rintro _ w16 ⟨b12, rfl, hb13, hB14, E15⟩
  have g17 : w.heap.size ≤ b12 := Nat.le_trans (Below.size (Ext.refl w)) hb13
  change Blk _ _ [(Iv A_a.kind), (Iv A_a.a), (Iv A_a.b), (.slice p5 A_a.nums.length q6)] at hB14
  have X18 := Ext.gr (Ext.refl w) E15
  show wpList _ _ _ _ (fr [_, _, _, _, _, _, _, _, _, _, _, _, _, _, _, _, _, _, _, _, _, _, _, _, _, _]) _
  refine seqd rfl rfl (does_box (u := (.agg #[(Iv A_b.kind), (Iv A_b.a), (Iv A_b.b), (.slice p8 A_b.nums.length q9)])) (ev rfl)) ?_; rintro _ w23 ⟨b19, rfl, hb20, hB21, E22⟩
  have n24 : b12 < b19 := Nat.lt_of_lt_of_le (Blk.lt hB14) hb20
  have g25 : w.heap.size ≤ b19 := Nat.le_trans (Below.size X18) hb20
  change Blk _ _ [(Iv A_b.kind), (Iv A_b.a), (Iv A_b.b), (.slice p8 A_b.nums.length q9)] at hB21
  have X26 := Ext.gr X18 E22
  show wpList _ _ _ _ (fr [_, _, _, _, _, _, _, _, _, _, _, _, _, _, _, _, _, _, _, _, _, _, _, _, _, _]) _
  refine q_is rfl rfl (does_assign (u := (Bo false)) (ev rfl)) (by dsimp only [List.set]; try rfl) ?_
  refine wpList_nil (hK11 _ _ ?_)
  refine wp_seq_k fun K27 hK27 => ?_
  refine wp_seq_k fun K28 hK28 => ?_
  refine wp_region_lit ?_
  refine q_is rfl rfl (does_fieldAddr (ev rfl) fa102_0) (by dsimp only [List.set]; try rfl) ?_
  refine q_is rfl rfl (does_load (u := (Iv A_a.kind)) (ev rfl) Try.isAgg2 (Cells.at (Blk.cells (hB14.ext E22)) 0 rfl)) (by dsimp only [List.set]; try rfl) ?_
  refine q_is rfl rfl (does_fieldAddr (ev rfl) fa102_0) (by dsimp only [List.set]; try rfl) ?_
  refine q_is rfl rfl (does_load (u := (Iv A_b.kind)) (ev rfl) Try.isAgg2 (Cells.at (Blk.cells hB21) 0 rfl)) (by dsimp only [List.set]; try rfl) ?_
  refine q_is rfl rfl (does_icmp (p := A_a.kind) (q := A_b.kind) (.inr (.inl rfl)) (ev rfl) (ev rfl)) (by dsimp only [List.set]; try rfl) ?_
  refine wpList_nil (hK28 _ _ ?_)
  refine wp_cond_split (t := icmp .neq A_a.kind A_b.kind) (ev rfl) (fun c29 => ?_) (fun c29 => ?_)
  · have c29' := c29
    (try simp only [icmp, Bool.and_eq_true, Bool.or_eq_true, Bool.and_eq_false_iff, Bool.or_eq_false_iff, Bool.not_eq_true', Bool.not_eq_false', decide_eq_true_eq, decide_eq_false_iff_not, beq_iff_eq, bne_iff_ne, beq_eq_false_iff_ne, bne_eq_false_iff_eq] at c29')
    refine wp_seq_k fun K30 hK30 => ?_
    refine wp_region_lit ?_
    refine q_is rfl rfl (does_assign (u := (Bo false)) (ev rfl)) (by dsimp only [List.set]; try rfl) ?_
    refine wpList_nil (hK30 _ _ ?_)
    refine wp_ret ?_
    dsimp only [Exit.then, Exit.inBlock]
    refine ret_val (v := (Bo false)) (res_T rfl (slot rfl)) X26 ?_
    have x31 : (sameNd A_a A_b) = false := by first | with_reducible rfl | (simp only [sameNd, icmp, c29]; done) | (simp [sameNd, icmp, c29]; done) | (revert c29; simp +contextual [sameNd, icmp]; done) | (rcases c29' with hh | hh <;> simp only [hh, sameNd, icmp, c29]; done) | (rcases c29' with hh | hh <;> simp_all [sameNd, icmp]; done) | (rcases c29' with hh | hh | hh <;> simp_all [sameNd, icmp]; done) | (rcases c29' with hh | hh | hh | hh <;> simp_all [sameNd, icmp]; done) | (simp_all [sameNd, icmp]; done) | rfl
    exact (by first | with_reducible rfl | rw [x31] | rfl)
  have c29' := c29
  (try simp only [icmp, Bool.and_eq_true, Bool.or_eq_true, Bool.and_eq_false_iff, Bool.or_eq_false_iff, Bool.not_eq_true', Bool.not_eq_false', decide_eq_true_eq, decide_eq_false_iff_not, beq_iff_eq, bne_iff_ne, beq_eq_false_iff_ne, bne_eq_false_iff_eq] at c29')
  refine wp_skip (hK27 _ _ ?_)
  refine wp_seq_k fun K32 hK32 => ?_
  refine wp_seq_k fun K33 hK33 => ?_
  refine wp_region_lit ?_
  refine q_is rfl rfl (does_fieldAddr (ev rfl) fa102_1) (by dsimp only [List.set]; try rfl) ?_
  refine q_is rfl rfl (does_load (u := (Iv A_a.a)) (ev rfl) Try.isAgg2 (Cells.at (Blk.cells (hB14.ext E22)) 1 rfl)) (by dsimp only [List.set]; try rfl) ?_
  refine q_is rfl rfl (does_fieldAddr (ev rfl) fa102_1) (by dsimp only [List.set]; try rfl) ?_
  refine q_is rfl rfl (does_load (u := (Iv A_b.a)) (ev rfl) Try.isAgg2 (Cells.at (Blk.cells hB21) 1 rfl)) (by dsimp only [List.set]; try rfl) ?_
  refine q_is rfl rfl (does_icmp (p := A_a.a) (q := A_b.a) (.inr (.inl rfl)) (ev rfl) (ev rfl)) (by dsimp only [List.set]; try rfl) ?_
  refine wpList_nil (hK33 _ _ ?_)
  refine wp_cond_split (t := icmp .neq A_a.a A_b.a) (ev rfl) (fun c34 => ?_) (fun c34 => ?_)
  · have c34' := c34
    (try simp only [icmp, Bool.and_eq_true, Bool.or_eq_true, Bool.and_eq_false_iff, Bool.or_eq_false_iff, Bool.not_eq_true', Bool.not_eq_false', decide_eq_true_eq, decide_eq_false_iff_not, beq_iff_eq, bne_iff_ne, beq_eq_false_iff_ne, bne_eq_false_iff_eq] at c34')
    refine wp_seq_k fun K35 hK35 => ?_
    refine wp_region_lit ?_
    refine q_is rfl rfl (does_assign (u := (Bo false)) (ev rfl)) (by dsimp only [List.set]; try rfl) ?_
    refine wpList_nil (hK35 _ _ ?_)
    refine wp_ret ?_
    dsimp only [Exit.then, Exit.inBlock]
    refine ret_val (v := (Bo false)) (res_T rfl (slot rfl)) X26 ?_
    have x36 : (sameNd A_a A_b) = false := by first | with_reducible rfl | (simp only [sameNd, icmp, c29, c34]; done) | (simp [sameNd, icmp, c29, c34]; done) | (revert c29 c34; simp +contextual [sameNd, icmp]; done) | (rcases c29' with hh | hh <;> simp only [hh, sameNd, icmp, c29, c34]; done) | (rcases c34' with hh | hh <;> simp only [hh, sameNd, icmp, c29, c34]; done) | (rcases c34' with hh | hh <;> simp_all [sameNd, icmp]; done) | (rcases c34' with hh | hh | hh <;> simp_all [sameNd, icmp]; done) | (rcases c34' with hh | hh | hh | hh <;> simp_all [sameNd, icmp]; done) | (simp_all [sameNd, icmp]; done) | rfl
    exact (by first | with_reducible rfl | rw [x36] | rfl)
  have c34' := c34
  (try simp only [icmp, Bool.and_eq_true, Bool.or_eq_true, Bool.and_eq_false_iff, Bool.or_eq_false_iff, Bool.not_eq_true', Bool.not_eq_false', decide_eq_true_eq, decide_eq_false_iff_not, beq_iff_eq, bne_iff_ne, beq_eq_false_iff_ne, bne_eq_false_iff_eq] at c34')
  refine wp_skip (hK32 _ _ ?_)
  refine wp_seq_k fun K37 hK37 => ?_
  refine wp_seq_k fun K38 hK38 => ?_
  refine wp_region_lit ?_
  refine q_is rfl rfl (does_fieldAddr (ev rfl) fa102_2) (by dsimp only [List.set]; try rfl) ?_
  refine q_is rfl rfl (does_load (u := (Iv A_a.b)) (ev rfl) Try.isAgg2 (Cells.at (Blk.cells (hB14.ext E22)) 2 rfl)) (by dsimp only [List.set]; try rfl) ?_
  refine q_is rfl rfl (does_fieldAddr (ev rfl) fa102_2) (by dsimp only [List.set]; try rfl) ?_
  refine q_is rfl rfl (does_load (u := (Iv A_b.b)) (ev rfl) Try.isAgg2 (Cells.at (Blk.cells hB21) 2 rfl)) (by dsimp only [List.set]; try rfl) ?_
  refine q_is rfl rfl (does_icmp (p := A_a.b) (q := A_b.b) (.inr (.inl rfl)) (ev rfl) (ev rfl)) (by dsimp only [List.set]; try rfl) ?_
  refine wpList_nil (hK38 _ _ ?_)
  refine wp_cond_split (t := icmp .neq A_a.b A_b.b) (ev rfl) (fun c39 => ?_) (fun c39 => ?_)
  · have c39' := c39
    (try simp only [icmp, Bool.and_eq_true, Bool.or_eq_true, Bool.and_eq_false_iff, Bool.or_eq_false_iff, Bool.not_eq_true', Bool.not_eq_false', decide_eq_true_eq, decide_eq_false_iff_not, beq_iff_eq, bne_iff_ne, beq_eq_false_iff_ne, bne_eq_false_iff_eq] at c39')
    refine wp_seq_k fun K40 hK40 => ?_
    refine wp_region_lit ?_
    refine q_is rfl rfl (does_assign (u := (Bo false)) (ev rfl)) (by dsimp only [List.set]; try rfl) ?_
    refine wpList_nil (hK40 _ _ ?_)
    refine wp_ret ?_
    dsimp only [Exit.then, Exit.inBlock]
    refine ret_val (v := (Bo false)) (res_T rfl (slot rfl)) X26 ?_
    have x41 : (sameNd A_a A_b) = false := by first | with_reducible rfl | (simp only [sameNd, icmp, c29, c34, c39]; done) | (simp [sameNd, icmp, c29, c34, c39]; done) | (revert c29 c34 c39; simp +contextual [sameNd, icmp]; done) | (rcases c29' with hh | hh <;> simp only [hh, sameNd, icmp, c29, c34, c39]; done) | (rcases c34' with hh | hh <;> simp only [hh, sameNd, icmp, c29, c34, c39]; done) | (rcases c39' with hh | hh <;> simp only [hh, sameNd, icmp, c29, c34, c39]; done) | (rcases c39' with hh | hh <;> simp_all [sameNd, icmp]; done) | (rcases c39' with hh | hh | hh <;> simp_all [sameNd, icmp]; done) | (rcases c39' with hh | hh | hh | hh <;> simp_all [sameNd, icmp]; done) | (simp_all [sameNd, icmp]; done) | rfl
    exact (by first | with_reducible rfl | rw [x41] | rfl)
  have c39' := c39
  (try simp only [icmp, Bool.and_eq_true, Bool.or_eq_true, Bool.and_eq_false_iff, Bool.or_eq_false_iff, Bool.not_eq_true', Bool.not_eq_false', decide_eq_true_eq, decide_eq_false_iff_not, beq_iff_eq, bne_iff_ne, beq_eq_false_iff_ne, bne_eq_false_iff_eq] at c39')
  refine wp_skip (hK37 _ _ ?_)
  refine wp_seq_k fun K42 hK42 => ?_
  refine wp_seq_k fun K43 hK43 => ?_
  refine wp_region_lit ?_
  refine q_is rfl rfl (does_fieldAddr (ev rfl) fa102_3) (by dsimp only [List.set]; try rfl) ?_
  refine q_is rfl rfl (does_load (u := (.slice p5 A_a.nums.length q6)) (ev rfl) Try.isAgg97 (Cells.at (Blk.cells (hB14.ext E22)) 3 rfl)) (by dsimp only [List.set]; try rfl) ?_
  refine q_is rfl rfl (does_fieldAddr (ev rfl) fa102_3) (by dsimp only [List.set]; try rfl) ?_
  refine q_is rfl rfl (does_load (u := (.slice p8 A_b.nums.length q9)) (ev rfl) Try.isAgg97 (Cells.at (Blk.cells hB21) 3 rfl)) (by dsimp only [List.set]; try rfl) ?_
  refine seqd rfl rfl (does_call (args := #[(.slice p5 A_a.nums.length q6), (.slice p8 A_b.nums.length q9)]) cal90 (evs rfl) (c_laws_eqFloat32S (.slice p5 A_a.nums.length q6) A_a.nums (.slice p8 A_b.nums.length q9) A_b.nums _ (Sl.ext hs7 RF.mono X26) (Sl.ext hs10 RF.mono X26))) ?_; rintro _ w45 ⟨E44, rfl⟩
  have X46 := Ext.gr X26 E44
  show wpList _ _ _ _ (fr [_, _, _, _, _, _, _, _, _, _, _, _, _, _, _, _, _, _, _, _, _, _, _, _, _, _]) _
  refine q_is rfl rfl (does_not (ev rfl)) (by dsimp only [List.set]; try rfl) ?_
  refine wpList_nil (hK43 _ _ ?_)
  refine wp_cond_split (t := !(sameL A_a.nums A_b.nums)) (ev rfl) (fun c47 => ?_) (fun c47 => ?_)
  · rw [Bool.not_eq_true'] at c47
    have c47' := c47
    refine wp_seq_k fun K48 hK48 => ?_
    refine wp_region_lit ?_
    refine q_is rfl rfl (does_assign (u := (Bo false)) (ev rfl)) (by dsimp only [List.set]; try rfl) ?_
    refine wpList_nil (hK48 _ _ ?_)
    refine wp_ret ?_
    dsimp only [Exit.then, Exit.inBlock]
    refine ret_val (v := (Bo false)) (res_T rfl (slot rfl)) X46 ?_
    have x49 : (sameNd A_a A_b) = false := by first | with_reducible rfl | (simp only [sameNd, icmp, c29, c34, c39, c47]; done) | (simp [sameNd, icmp, c29, c34, c39, c47]; done) | (revert c29 c34 c39 c47; simp +contextual [sameNd, icmp]; done) | (rcases c29' with hh | hh <;> simp only [hh, sameNd, icmp, c29, c34, c39, c47]; done) | (rcases c34' with hh | hh <;> simp only [hh, sameNd, icmp, c29, c34, c39, c47]; done) | (rcases c39' with hh | hh <;> simp only [hh, sameNd, icmp, c29, c34, c39, c47]; done) | (rcases c47' with hh | hh <;> simp only [hh, sameNd, icmp, c29, c34, c39, c47]; done) | (rcases c47' with hh | hh <;> simp_all [sameNd, icmp]; done) | (rcases c47' with hh | hh | hh <;> simp_all [sameNd, icmp]; done) | (rcases c47' with hh | hh | hh | hh <;> simp_all [sameNd, icmp]; done) | (simp_all [sameNd, icmp]; done) | rfl
    exact (by first | with_reducible rfl | rw [x49] | rfl)
  rw [Bool.not_eq_false'] at c47
  have c47' := c47
  refine wp_skip (hK42 _ _ ?_)
  refine wp_seq_k fun K50 hK50 => ?_
  refine wp_region_lit ?_
  refine q_is rfl rfl (does_assign (u := (Bo true)) (ev rfl)) (by dsimp only [List.set]; try rfl) ?_
  refine wpList_nil (hK50 _ _ ?_)
  refine wp_ret ?_
  refine ret_val (v := (Bo true)) (res_T rfl (slot rfl)) X46 ?_
  have x51 : (sameNd A_a A_b) = true := by first | with_reducible rfl | (simp only [sameNd, icmp, c29, c34, c39, c47]; done) | (simp [sameNd, icmp, c29, c34, c39, c47]; done) | (revert c29 c34 c39 c47; simp +contextual [sameNd, icmp]; done) | (rcases c29' with hh | hh <;> simp only [hh, sameNd, icmp, c29, c34, c39, c47]; done) | (rcases c34' with hh | hh <;> simp only [hh, sameNd, icmp, c29, c34, c39, c47]; done) | (rcases c39' with hh | hh <;> simp only [hh, sameNd, icmp, c29, c34, c39, c47]; done) | (rcases c47' with hh | hh <;> simp only [hh, sameNd, icmp, c29, c34, c39, c47]; done) | (rcases c47' with hh | hh <;> simp_all [sameNd, icmp]; done) | (rcases c47' with hh | hh | hh <;> simp_all [sameNd, icmp]; done) | (rcases c47' with hh | hh | hh | hh <;> simp_all [sameNd, icmp]; done) | (simp_all [sameNd, icmp]; done) | rfl
  exact (by first | with_reducible rfl | rw [x51] | rfl)

/- laws.eqNodeS -/
theorem c_laws_eqNodeS (a : Value) (L_a : List NodeT) (b : Value) (L_b : List NodeT) (w : World) (hv_a : Sl RNodeT 4 w a L_a) (hv_b : Sl RNodeT 4 w b L_b) : Gives Try.prog 28 #[a, b] w (fun v w' => v = (Bo (sameX sameNd L_a L_b))) := by
  have hlen_a := Sl.len hv_a; obtain ⟨p_a, q_a, rfl⟩ := Sl.shape hv_a
  have hlen_b := Sl.len hv_b; obtain ⟨p_b, q_b, rfl⟩ := Sl.shape hv_b
  refine enter [(.slice p_a L_a.length q_a), (.slice p_b L_b.length q_b), Ud, Ud, Ud, Ud, Ud, Ud, Ud, Ud, Ud, Ud, Ud, Ud, Ud, Ud, Ud, Ud, Ud, Ud, Ud, Ud, Ud, Ud, Ud, Ud, Ud] Try.func28 rfl Try.ntmps28 rfl ?_
  refine wp_seq_k fun K1 hK1 => ?_
  refine wp_region_lit ?_
  refine q_is rfl rfl (does_assign (u := (Bo false)) (ev rfl)) (by dsimp only [List.set]; try rfl) ?_
  refine wpList_nil (hK1 _ _ ?_)
  refine wp_seq_k fun K2 hK2 => ?_
  refine wp_seq_k fun K3 hK3 => ?_
  refine wp_region_lit ?_
  refine q_is rfl rfl (does_move (u := (.slice p_a L_a.length q_a)) (ev rfl)) (by dsimp only [List.set]; try rfl) ?_
  refine q_is rfl rfl (does_len_slice Try.underlying28 (ev rfl)) (by dsimp only [List.set]; try rfl) ?_
  refine q_is rfl rfl (does_move (u := (.slice p_b L_b.length q_b)) (ev rfl)) (by dsimp only [List.set]; try rfl) ?_
  refine q_is rfl rfl (does_len_slice Try.underlying28 (ev rfl)) (by dsimp only [List.set]; try rfl) ?_
  refine q_is rfl rfl (does_icmp (p := (L_a.length : Int)) (q := (L_b.length : Int)) (.inr (.inl rfl)) (ev rfl) (ev rfl)) (by dsimp only [List.set]; try rfl) ?_
  refine wpList_nil (hK3 _ _ ?_)
  refine wp_cond_split (t := icmp .neq (L_a.length : Int) (L_b.length : Int)) (ev rfl) (fun c4 => ?_) (fun c4 => ?_)
  · have c4' := c4
    (try simp only [icmp, Bool.and_eq_true, Bool.or_eq_true, Bool.and_eq_false_iff, Bool.or_eq_false_iff, Bool.not_eq_true', Bool.not_eq_false', decide_eq_true_eq, decide_eq_false_iff_not, beq_iff_eq, bne_iff_ne, beq_eq_false_iff_ne, bne_eq_false_iff_eq] at c4')
    refine wp_seq_k fun K5 hK5 => ?_
    refine wp_region_lit ?_
    refine q_is rfl rfl (does_assign (u := (Bo false)) (ev rfl)) (by dsimp only [List.set]; try rfl) ?_
    refine wpList_nil (hK5 _ _ ?_)
    refine wp_ret ?_
    dsimp only [Exit.then, Exit.inBlock]
    refine ret_val (v := (Bo false)) (res_T rfl (slot rfl)) (Ext.refl w) ?_
    have x6 : (sameX sameNd L_a L_b) = false := by first | exact (sameX_len (by omega)) | exact (sameX_not (by omega) (by assumption) (by assumption) (by simp_all)) | exact (sameX_all (by omega) (by omega) hs)
    exact (by first | with_reducible rfl | rw [x6] | rfl)
  have c4' := c4
  (try simp only [icmp, Bool.and_eq_true, Bool.or_eq_true, Bool.and_eq_false_iff, Bool.or_eq_false_iff, Bool.not_eq_true', Bool.not_eq_false', decide_eq_true_eq, decide_eq_false_iff_not, beq_iff_eq, bne_iff_ne, beq_eq_false_iff_ne, bne_eq_false_iff_eq] at c4')
  refine wp_skip (hK2 _ _ ?_)
  refine wp_seq_k fun K7 hK7 => ?_
  refine wp_seq_k fun K8 hK8 => ?_
  refine wp_region_lit ?_
  refine q_is rfl rfl (does_assign (u := (Iv 0)) (ev rfl)) (by dsimp only [List.set]; try rfl) ?_
  refine wpList_nil (hK8 _ _ ?_)
  refine wp_block ?_
  refine loop_ghost (σ := Nat) (fun k a w' => ∃ u9 : Nat → Value, a = fr [(.slice p_a L_a.length q_a), (.slice p_b L_b.length q_b), Ud, Ud, (u9 4), (Iv (k : Int)), (.slice p_a L_a.length q_a), (Iv (L_a.length : Int)), (.slice p_b L_b.length q_b), (Iv (L_b.length : Int)), (Bo (icmp .neq (L_a.length : Int) (L_b.length : Int))), (u9 11), (u9 12), (u9 13), (u9 14), (u9 15), (u9 16), (u9 17), (u9 18), (u9 19), (u9 20), (u9 21), (u9 22), (u9 23), (u9 24), (u9 25), (u9 26)] ∧ Ext w w' ∧ (k ≤ L_a.length ∧ SameXTo sameNd L_a L_b k)) (fun k => L_a.length - k) 0 ?_ ?_
  · refine ⟨fun t => (([(.slice p_a L_a.length q_a), (.slice p_b L_b.length q_b), Ud, Ud, (Bo false), (Iv 0), (.slice p_a L_a.length q_a), (Iv (L_a.length : Int)), (.slice p_b L_b.length q_b), (Iv (L_b.length : Int)), (Bo (icmp .neq (L_a.length : Int) (L_b.length : Int))), Ud, Ud, Ud, Ud, Ud, Ud, Ud, Ud, Ud, Ud, Ud, Ud, Ud, Ud, Ud, Ud] : List Value)[t]?).getD undef, rfl, Ext.refl _, ?_⟩
    exact ⟨Nat.zero_le _, SameXTo.zero⟩
  · rintro k a w10 ⟨u9, rfl, E11, ⟨hk, hs⟩⟩
    have X13 := Ext.gr (Ext.refl w) E11
    refine wp_seq_k fun K14 hK14 => ?_
    refine wp_seq_k fun K15 hK15 => ?_
    refine wp_region_lit ?_
    refine q_is rfl rfl (does_move (u := (Iv (k : Int))) (ev rfl)) (by dsimp only [List.set]; try rfl) ?_
    refine q_is rfl rfl (does_move (u := (.slice p_a L_a.length q_a)) (ev rfl)) (by dsimp only [List.set]; try rfl) ?_
    refine q_is rfl rfl (does_len_slice Try.underlying28 (ev rfl)) (by dsimp only [List.set]; try rfl) ?_
    refine q_is rfl rfl (does_icmp (p := (k : Int)) (q := (L_a.length : Int)) (.inr (.inr (.inl rfl))) (ev rfl) (ev rfl)) (by dsimp only [List.set]; try rfl) ?_
    refine wpList_nil (hK15 _ _ ?_)
    refine wp_cond_split (t := icmp .lss (k : Int) (L_a.length : Int)) (ev rfl) (fun c16 => ?_) (fun c16 => ?_)
    · have c16' := c16
      (try simp only [icmp, Bool.and_eq_true, Bool.or_eq_true, Bool.and_eq_false_iff, Bool.or_eq_false_iff, Bool.not_eq_true', Bool.not_eq_false', decide_eq_true_eq, decide_eq_false_iff_not, beq_iff_eq, bne_iff_ne, beq_eq_false_iff_ne, bne_eq_false_iff_eq] at c16')
      refine wp_skip (hK14 _ _ ?_)
      refine wp_seq_k fun K17 hK17 => ?_
      refine wp_block ?_
      refine wp_seq_k fun K18 hK18 => ?_
      obtain ⟨el1, hel1⟩ : ∃ e, L_a[k]? = some e := ⟨_, List.getElem?_eq_getElem (by omega)⟩
      obtain ⟨el2, hel2⟩ : ∃ e, L_b[k]? = some e := ⟨_, List.getElem?_eq_getElem (by omega)⟩
      refine region_draw (
        [Fact.pure [] (fun v => v = (.slice p_a L_a.length q_a)),
    Fact.pure [] (fun v => v = (Iv (k : Int))),
    Fact.mem [17, 18] (fun v w' => PtrR RNodeT w' v el1) (by intro v w1 w2 hx h; exact h.ext RNodeT.mono hx),
    Fact.mem [19] (fun v w' => ∃ cs_1 : List Value, v = (.agg cs_1.toArray) ∧ RNodeT w' el1 cs_1) (by rintro v w1 w2 hx ⟨z1, rfl, k0⟩; exact ⟨_, rfl, (RNodeT.mono _ _ _ _ hx k0)⟩),
    Fact.pure [] (fun v => v = (.slice p_b L_b.length q_b)),
    Fact.pure [] (fun v => v = (Iv (k : Int))),
    Fact.mem [21, 22] (fun v w' => PtrR RNodeT w' v el2) (by intro v w1 w2 hx h; exact h.ext RNodeT.mono hx),
    Fact.mem [23] (fun v w' => ∃ cs_1 : List Value, v = (.agg cs_1.toArray) ∧ RNodeT w' el2 cs_1) (by rintro v w1 w2 hx ⟨z1, rfl, k0⟩; exact ⟨_, rfl, (RNodeT.mono _ _ _ _ hx k0)⟩),
    Fact.pure [20, 24] (fun v => v = (Bo (sameNd el1 el2))),
    Fact.pure [25] (fun v => v = (Bo (!(sameNd el1 el2))))]) mixed (by kernel_rfl) (by intro _ _ d _ _ h; cases d <;> exact h) ?_
      obtain ⟨w19, hw21⟩ : ∃ w', w' = World.drew w10 := ⟨_, rfl⟩; rw [← hw21]; have E20 : Ext w10 w19 := by rw [hw21]; exact Ext.draw _
      clear hw21
      have X22 := Ext.gr X13 E20
      refine RW_d _ rfl (fun v => by dsimp only [List.set]; try rfl) (fun u hu hF => ?_) (fun v23 => ?_)
      · clear hF
        refine doesG_un rfl ?_
        refine (does_move (u := (.slice p_a L_a.length q_a)) (ev rfl)).mono ?_; rintro _ _ ⟨rfl, rfl⟩
        exact ⟨rfl, Ext.refl _⟩
      refine RW_d _ rfl (fun v => by dsimp only [List.set]; try rfl) (fun u hu hF => ?_) (fun v24 => ?_)
      · clear hF
        refine doesG_un rfl ?_
        refine (does_move (u := (Iv (k : Int))) (ev rfl)).mono ?_; rintro _ _ ⟨rfl, rfl⟩
        exact ⟨rfl, Ext.refl _⟩
      refine RW_d _ rfl (fun v => by dsimp only [List.set]; try rfl) (fun u hu hF => ?_) (fun v25 => ?_)
      · have h17_ : v23 = (.slice p_a L_a.length q_a) := hF.1
        have h18_ : v24 = (Iv (k : Int)) := hF.2.1
        clear hF
        refine doesG_un rfl ?_
        obtain rfl := h17_
        obtain rfl := h18_
        refine (does_indexSl (R := RNodeT) (i := (k : Int)) (xs := L_a) (e := el1) Try.underlying28 Try.sizeOf102 (ev rfl) (ev rfl) (Sl.ext (Sl.ext hv_a RNodeT.mono (Ext.gr X13 E20)) RNodeT.mono hu) (by omega) hel1).mono ?_; rintro v u' ⟨b, of, cs, hv, hc, hR, hu'⟩; subst hu'
        exact ⟨⟨b, of, cs, hv, hc, hR⟩, Ext.refl _⟩
      refine RW_d _ rfl (fun v => by dsimp only [List.set]; try rfl) (fun u hu hF => ?_) (fun v26 => ?_)
      · have h19_ : PtrR RNodeT u v25 el1 := hF.1
        clear hF
        refine doesG_un rfl ?_
        obtain ⟨b19_, o19_, _, rfl, hc19_, ⟨y19_1, rfl, h19_2⟩⟩ := h19_
        have hh19_2 := h19_2; obtain ⟨p19_3, q19_4, rfl⟩ := Sl.shape h19_2
        refine (does_loadAgg (cs := [(Iv el1.kind), (Iv el1.a), (Iv el1.b), (.slice p19_3 el1.nums.length q19_4)]) (ev rfl) Try.isAgg102 Try.sizeOf102 hc19_ rfl).mono ?_; rintro _ _ ⟨rfl, rfl⟩
        exact ⟨⟨[(Iv el1.kind), (Iv el1.a), (Iv el1.b), (.slice p19_3 el1.nums.length q19_4)], rfl, ⟨(.slice p19_3 el1.nums.length q19_4), rfl, (by assumption)⟩⟩, Ext.refl _⟩
      refine RW_d _ rfl (fun v => by dsimp only [List.set]; try rfl) (fun u hu hF => ?_) (fun v27 => ?_)
      · clear hF
        refine doesG_un rfl ?_
        refine (does_move (u := (.slice p_b L_b.length q_b)) (ev rfl)).mono ?_; rintro _ _ ⟨rfl, rfl⟩
        exact ⟨rfl, Ext.refl _⟩
      refine RW_d _ rfl (fun v => by dsimp only [List.set]; try rfl) (fun u hu hF => ?_) (fun v28 => ?_)
      · clear hF
        refine doesG_un rfl ?_
        refine (does_move (u := (Iv (k : Int))) (ev rfl)).mono ?_; rintro _ _ ⟨rfl, rfl⟩
        exact ⟨rfl, Ext.refl _⟩
      refine RW_d _ rfl (fun v => by dsimp only [List.set]; try rfl) (fun u hu hF => ?_) (fun v29 => ?_)
      · have h21_ : v27 = (.slice p_b L_b.length q_b) := hF.1
        have h22_ : v28 = (Iv (k : Int)) := hF.2.1
        clear hF
        refine doesG_un rfl ?_
        obtain rfl := h21_
        obtain rfl := h22_
        refine (does_indexSl (R := RNodeT) (i := (k : Int)) (xs := L_b) (e := el2) Try.underlying28 Try.sizeOf102 (ev rfl) (ev rfl) (Sl.ext (Sl.ext hv_b RNodeT.mono (Ext.gr X13 E20)) RNodeT.mono hu) (by omega) hel2).mono ?_; rintro v u' ⟨b, of, cs, hv, hc, hR, hu'⟩; subst hu'
        exact ⟨⟨b, of, cs, hv, hc, hR⟩, Ext.refl _⟩
      refine RW_d _ rfl (fun v => by dsimp only [List.set]; try rfl) (fun u hu hF => ?_) (fun v30 => ?_)
      · have h23_ : PtrR RNodeT u v29 el2 := hF.1
        clear hF
        refine doesG_un rfl ?_
        obtain ⟨b23_, o23_, _, rfl, hc23_, ⟨y23_1, rfl, h23_2⟩⟩ := h23_
        have hh23_2 := h23_2; obtain ⟨p23_3, q23_4, rfl⟩ := Sl.shape h23_2
        refine (does_loadAgg (cs := [(Iv el2.kind), (Iv el2.a), (Iv el2.b), (.slice p23_3 el2.nums.length q23_4)]) (ev rfl) Try.isAgg102 Try.sizeOf102 hc23_ rfl).mono ?_; rintro _ _ ⟨rfl, rfl⟩
        exact ⟨⟨[(Iv el2.kind), (Iv el2.a), (Iv el2.b), (.slice p23_3 el2.nums.length q23_4)], rfl, ⟨(.slice p23_3 el2.nums.length q23_4), rfl, (by assumption)⟩⟩, Ext.refl _⟩
      refine RW_d _ rfl (fun v => by dsimp only [List.set]; try rfl) (fun u hu hF => ?_) (fun v31 => ?_)
      · have h20_ : ∃ cs_1 : List Value, v26 = (.agg cs_1.toArray) ∧ RNodeT u el1 cs_1 := hF.1
        have h24_ : ∃ cs_1 : List Value, v30 = (.agg cs_1.toArray) ∧ RNodeT u el2 cs_1 := hF.2.1
        clear hF
        refine doesG_un rfl ?_
        obtain ⟨_, rfl, ⟨y20_1, rfl, h20_2⟩⟩ := h20_
        have hh20_2 := h20_2; obtain ⟨p20_3, q20_4, rfl⟩ := Sl.shape h20_2
        obtain ⟨_, rfl, ⟨y24_1, rfl, h24_2⟩⟩ := h24_
        have hh24_2 := h24_2; obtain ⟨p24_3, q24_4, rfl⟩ := Sl.shape h24_2
        refine (does_call (args := #[(.agg #[(Iv el1.kind), (Iv el1.a), (Iv el1.b), (.slice p20_3 el1.nums.length q20_4)]), (.agg #[(Iv el2.kind), (Iv el2.a), (Iv el2.b), (.slice p24_3 el2.nums.length q24_4)])]) cal63 (evs rfl) (c_laws_eqNode [(Iv el1.kind), (Iv el1.a), (Iv el1.b), (.slice p20_3 el1.nums.length q20_4)] el1 [(Iv el2.kind), (Iv el2.a), (Iv el2.b), (.slice p24_3 el2.nums.length q24_4)] el2 _ ⟨(.slice p20_3 el1.nums.length q20_4), rfl, hh20_2⟩ ⟨(.slice p24_3 el2.nums.length q24_4), rfl, hh24_2⟩)).mono ?_; rintro v u' ⟨hx, hv⟩
        exact ⟨hv, hx⟩
      refine RW_d _ rfl (fun v => by dsimp only [List.set]; try rfl) (fun u hu hF => ?_) (fun v32 => ?_)
      · have h25_ : v31 = (Bo (sameNd el1 el2)) := hF.1
        clear hF
        refine doesG_un rfl ?_
        obtain rfl := h25_
        refine (does_not (ev rfl)).mono ?_; rintro _ _ ⟨rfl, rfl⟩
        exact ⟨rfl, Ext.refl _⟩
      refine RW_fin ?_; intro w33 E34 hP35
      obtain ⟨⟨⟨⟨⟨⟨⟨⟨⟨⟨-, -⟩, -⟩, -⟩, -⟩, -⟩, -⟩, -⟩, -⟩, -⟩, q36⟩ := hP35
      have X37 := Ext.gr X22 E34
      have q36 : v32 = (Bo (!(sameNd el1 el2))) := q36
      obtain rfl := q36
      show wpList _ _ _ _ (fr [_, _, _, _, _, _, _, _, _, _, _, _, _, _, _, _, _, _, _, _, _, _, _, _, _, _, _]) _
      refine wpList_nil (hK18 _ _ ?_)
      refine wp_cond_split (t := !(sameNd el1 el2)) (ev rfl) (fun c38 => ?_) (fun c38 => ?_)
      · rw [Bool.not_eq_true'] at c38
        have c38' := c38
        refine wp_seq_k fun K39 hK39 => ?_
        refine wp_region_lit ?_
        refine q_is rfl rfl (does_assign (u := (Bo false)) (ev rfl)) (by dsimp only [List.set]; try rfl) ?_
        refine wpList_nil (hK39 _ _ ?_)
        refine wp_ret ?_
        dsimp only [Exit.then, Exit.inBlock]
        refine ret_val (v := (Bo false)) (res_T rfl (slot rfl)) X37 ?_
        try simp only [hel1, hel2] at c4 c16 c38
        have x40 : (sameX sameNd L_a L_b) = false := by first | exact (sameX_len (by omega)) | exact (sameX_not (by omega) (by assumption) (by assumption) (by simp_all)) | exact (sameX_all (by omega) (by omega) hs)
        exact (by first | with_reducible rfl | rw [x40] | rfl)
      rw [Bool.not_eq_false'] at c38
      have c38' := c38
      refine wp_skip (hK17 _ _ ?_)
      refine wp_region_lit ?_
      refine q_is rfl rfl (does_move (u := (Iv (k : Int))) (ev rfl)) (by dsimp only [List.set]; try rfl) ?_
      refine q_is rfl rfl (does_iarith (p := (k : Int)) (q := 1) (r := (k : Int) + 1) (ev rfl) (ev rfl) (.inl ⟨rfl, (in_i64 (by omega) (by omega)).symm⟩)) (by dsimp only [List.set]; try rfl) ?_
      refine q_is rfl rfl (does_assign (u := (Iv ((k : Int) + 1))) (ev rfl)) (by dsimp only [List.set]; try rfl) ?_
      refine wpList_nil ?_
      refine ⟨k + 1, ⟨fun t => (([(.slice p_a L_a.length q_a), (.slice p_b L_b.length q_b), Ud, Ud, (u9 4), (Iv ((k : Int) + 1)), (.slice p_a L_a.length q_a), (Iv (L_a.length : Int)), (.slice p_b L_b.length q_b), (Iv (L_b.length : Int)), (Bo (icmp .neq (L_a.length : Int) (L_b.length : Int))), (Iv (k : Int)), (.slice p_a L_a.length q_a), (Iv (L_a.length : Int)), (Bo (icmp .lss (k : Int) (L_a.length : Int))), (Iv (k : Int)), (Iv ((k : Int) + 1)), v23, v24, v25, v26, v27, v28, v29, v30, v31, (Bo (!(sameNd el1 el2)))] : List Value)[t]?).getD undef, ?_, (Ext.gr (Ext.gr E11 E20) E34), ?_⟩, ?_⟩
      · first | rfl | (simp only [Nat.cast_add, Nat.cast_one, Int.natCast_add, Int.natCast_one]; rfl)
      · exact ⟨by omega, SameXTo.step hs (by assumption) (by assumption) (by simp_all)⟩
      · omega
    have c16' := c16
    (try simp only [icmp, Bool.and_eq_true, Bool.or_eq_true, Bool.and_eq_false_iff, Bool.or_eq_false_iff, Bool.not_eq_true', Bool.not_eq_false', decide_eq_true_eq, decide_eq_false_iff_not, beq_iff_eq, bne_iff_ne, beq_eq_false_iff_ne, bne_eq_false_iff_eq] at c16')
    refine wp_exit ?_
    refine hK7 _ _ ?_
    refine wp_seq_k fun K41 hK41 => ?_
    refine wp_region_lit ?_
    refine q_is rfl rfl (does_assign (u := (Bo true)) (ev rfl)) (by dsimp only [List.set]; try rfl) ?_
    refine wpList_nil (hK41 _ _ ?_)
    refine wp_ret ?_
    refine ret_val (v := (Bo true)) (res_T rfl (slot rfl)) X13 ?_
    have x42 : (sameX sameNd L_a L_b) = true := by first | exact (sameX_len (by omega)) | exact (sameX_not (by omega) (by assumption) (by assumption) (by simp_all)) | exact (sameX_all (by omega) (by omega) hs)
    exact (by first | with_reducible rfl | rw [x42] | rfl)

/- laws.eqShape -/
theorem c_laws_eqShape (a : List Value) (A_a : ShapeT) (b : List Value) (A_b : ShapeT) (w : World) (hv_a : RShapeT w A_a a) (hv_b : RShapeT w A_b b) : Gives Try.prog 10 #[(.agg a.toArray), (.agg b.toArray)] w (fun v w' => v = (Bo (sameShp A_a A_b))) := by
  obtain ⟨y1, rfl, h2⟩ := hv_a
  obtain ⟨y3, rfl, h4⟩ := hv_b
  have hs7 := h2; have hs7l := Sl.len h2; obtain ⟨p5, q6, rfl⟩ := Sl.shape h2
  have hs10 := h4; have hs10l := Sl.len h4; obtain ⟨p8, q9, rfl⟩ := Sl.shape h4
  refine enter [(.agg #[(.slice p5 A_a.nodes.length q6)]), (.agg #[(.slice p8 A_b.nodes.length q9)]), Ud, Ud, Ud, Ud, Ud, Ud, Ud, Ud, Ud] Try.func10 rfl Try.ntmps10 rfl ?_
  refine wp_seq_k fun K11 hK11 => ?_
  refine wp_region_lit ?_
  refine seqd rfl rfl (does_box (u := (.agg #[(.slice p5 A_a.nodes.length q6)])) (ev rfl)) ?_; rintro _ w16 ⟨b12, rfl, hb13, hB14, E15⟩
  have g17 : w.heap.size ≤ b12 := Nat.le_trans (Below.size (Ext.refl w)) hb13
  change Blk _ _ [(.slice p5 A_a.nodes.length q6)] at hB14
  have X18 := Ext.gr (Ext.refl w) E15
  show wpList _ _ _ _ (fr [(.agg #[(.slice p5 A_a.nodes.length q6)]), (.agg #[(.slice p8 A_b.nodes.length q9)]), (Pt b12 0), Ud, Ud, Ud, Ud, Ud, Ud, Ud, Ud]) _
  refine seqd rfl rfl (does_box (u := (.agg #[(.slice p8 A_b.nodes.length q9)])) (ev rfl)) ?_; rintro _ w23 ⟨b19, rfl, hb20, hB21, E22⟩
  have n24 : b12 < b19 := Nat.lt_of_lt_of_le (Blk.lt hB14) hb20
  have g25 : w.heap.size ≤ b19 := Nat.le_trans (Below.size X18) hb20
  change Blk _ _ [(.slice p8 A_b.nodes.length q9)] at hB21
  have X26 := Ext.gr X18 E22
  show wpList _ _ _ _ (fr [(.agg #[(.slice p5 A_a.nodes.length q6)]), (.agg #[(.slice p8 A_b.nodes.length q9)]), (Pt b12 0), (Pt b19 0), Ud, Ud, Ud, Ud, Ud, Ud, Ud]) _
  refine q_is (l' := [(.agg #[(.slice p5 A_a.nodes.length q6)]), (.agg #[(.slice p8 A_b.nodes.length q9)]), (Pt b12 0), (Pt b19 0), (Bo false), Ud, Ud, Ud, Ud, Ud, Ud]) rfl rfl (does_assign (u := (Bo false)) (ev rfl)) rfl ?_
  refine wpList_nil (hK11 _ _ ?_)
  refine wp_seq_k fun K27 hK27 => ?_
  refine wp_seq_k fun K28 hK28 => ?_
  refine wp_region_lit ?_
  refine q_is (l' := [(.agg #[(.slice p5 A_a.nodes.length q6)]), (.agg #[(.slice p8 A_b.nodes.length q9)]), (Pt b12 0), (Pt b19 0), (Bo false), (Pt b12 0), Ud, Ud, Ud, Ud, Ud]) rfl rfl (does_fieldAddr (ev rfl) fa30_0) rfl ?_
  refine q_is (l' := [(.agg #[(.slice p5 A_a.nodes.length q6)]), (.agg #[(.slice p8 A_b.nodes.length q9)]), (Pt b12 0), (Pt b19 0), (Bo false), (Pt b12 0), (.slice p5 A_a.nodes.length q6), Ud, Ud, Ud, Ud]) rfl rfl (does_load (u := (.slice p5 A_a.nodes.length q6)) (ev rfl) Try.isAgg28 (Cells.at (Blk.cells (hB14.ext E22)) 0 rfl)) rfl ?_
  refine q_is (l' := [(.agg #[(.slice p5 A_a.nodes.length q6)]), (.agg #[(.slice p8 A_b.nodes.length q9)]), (Pt b12 0), (Pt b19 0), (Bo false), (Pt b12 0), (.slice p5 A_a.nodes.length q6), (Pt b19 0), Ud, Ud, Ud]) rfl rfl (does_fieldAddr (ev rfl) fa30_0) rfl ?_
  refine q_is (l' := [(.agg #[(.slice p5 A_a.nodes.length q6)]), (.agg #[(.slice p8 A_b.nodes.length q9)]), (Pt b12 0), (Pt b19 0), (Bo false), (Pt b12 0), (.slice p5 A_a.nodes.length q6), (Pt b19 0), (.slice p8 A_b.nodes.length q9), Ud, Ud]) rfl rfl (does_load (u := (.slice p8 A_b.nodes.length q9)) (ev rfl) Try.isAgg28 (Cells.at (Blk.cells hB21) 0 rfl)) rfl ?_
  refine seqd rfl rfl (does_call (args := #[(.slice p5 A_a.nodes.length q6), (.slice p8 A_b.nodes.length q9)]) cal28 (evs rfl) (c_laws_eqNodeS (.slice p5 A_a.nodes.length q6) A_a.nodes (.slice p8 A_b.nodes.length q9) A_b.nodes _ (Sl.ext hs7 RNodeT.mono X26) (Sl.ext hs10 RNodeT.mono X26))) ?_; rintro _ w30 ⟨E29, rfl⟩
  have X31 := Ext.gr X26 E29
  show wpList _ _ _ _ (fr [(.agg #[(.slice p5 A_a.nodes.length q6)]), (.agg #[(.slice p8 A_b.nodes.length q9)]), (Pt b12 0), (Pt b19 0), (Bo false), (Pt b12 0), (.slice p5 A_a.nodes.length q6), (Pt b19 0), (.slice p8 A_b.nodes.length q9), (Bo (sameX sameNd A_a.nodes A_b.nodes)), Ud]) _
  refine q_is (l' := [(.agg #[(.slice p5 A_a.nodes.length q6)]), (.agg #[(.slice p8 A_b.nodes.length q9)]), (Pt b12 0), (Pt b19 0), (Bo false), (Pt b12 0), (.slice p5 A_a.nodes.length q6), (Pt b19 0), (.slice p8 A_b.nodes.length q9), (Bo (sameX sameNd A_a.nodes A_b.nodes)), (Bo (!(sameX sameNd A_a.nodes A_b.nodes)))]) rfl rfl (does_not (ev rfl)) rfl ?_
  refine wpList_nil (hK28 _ _ ?_)
  refine wp_cond_split (t := !(sameX sameNd A_a.nodes A_b.nodes)) (ev rfl) (fun c32 => ?_) (fun c32 => ?_)
  · rw [Bool.not_eq_true'] at c32
    have c32' := c32
    refine wp_seq_k fun K33 hK33 => ?_
    refine wp_region_lit ?_
    refine q_is (l' := [(.agg #[(.slice p5 A_a.nodes.length q6)]), (.agg #[(.slice p8 A_b.nodes.length q9)]), (Pt b12 0), (Pt b19 0), (Bo false), (Pt b12 0), (.slice p5 A_a.nodes.length q6), (Pt b19 0), (.slice p8 A_b.nodes.length q9), (Bo (sameX sameNd A_a.nodes A_b.nodes)), (Bo (!(sameX sameNd A_a.nodes A_b.nodes)))]) rfl rfl (does_assign (u := (Bo false)) (ev rfl)) rfl ?_
    refine wpList_nil (hK33 _ _ ?_)
    refine wp_ret ?_
    dsimp only [Exit.then, Exit.inBlock]
    refine ret_val (v := (Bo false)) (res_T rfl (slot rfl)) X31 ?_
    have x34 : (sameShp A_a A_b) = false := by first | with_reducible rfl | (simp only [sameShp, c32]; done) | (simp [sameShp, c32]; done) | (revert c32; simp +contextual [sameShp]; done) | (rcases c32' with hh | hh <;> simp only [hh, sameShp, c32]; done) | (rcases c32' with hh | hh <;> simp_all [sameShp]; done) | (rcases c32' with hh | hh | hh <;> simp_all [sameShp]; done) | (rcases c32' with hh | hh | hh | hh <;> simp_all [sameShp]; done) | (simp_all [sameShp]; done) | rfl
    exact (by first | with_reducible rfl | rw [x34] | rfl)
  rw [Bool.not_eq_false'] at c32
  have c32' := c32
  refine wp_skip (hK27 _ _ ?_)
  refine wp_seq_k fun K35 hK35 => ?_
  refine wp_region_lit ?_
  refine q_is (l' := [(.agg #[(.slice p5 A_a.nodes.length q6)]), (.agg #[(.slice p8 A_b.nodes.length q9)]), (Pt b12 0), (Pt b19 0), (Bo true), (Pt b12 0), (.slice p5 A_a.nodes.length q6), (Pt b19 0), (.slice p8 A_b.nodes.length q9), (Bo (sameX sameNd A_a.nodes A_b.nodes)), (Bo (!(sameX sameNd A_a.nodes A_b.nodes)))]) rfl rfl (does_assign (u := (Bo true)) (ev rfl)) rfl ?_
  refine wpList_nil (hK35 _ _ ?_)
  refine wp_ret ?_
  refine ret_val (v := (Bo true)) (res_T rfl (slot rfl)) X31 ?_
  have x36 : (sameShp A_a A_b) = true := by first | with_reducible rfl | (simp only [sameShp, c32]; done) | (simp [sameShp, c32]; done) | (revert c32; simp +contextual [sameShp]; done) | (rcases c32' with hh | hh <;> simp only [hh, sameShp, c32]; done) | (rcases c32' with hh | hh <;> simp_all [sameShp]; done) | (rcases c32' with hh | hh | hh <;> simp_all [sameShp]; done) | (rcases c32' with hh | hh | hh | hh <;> simp_all [sameShp]; done) | (simp_all [sameShp]; done) | rfl
  exact (by first | with_reducible rfl | rw [x36] | rfl)

/- laws.eqKey -/
theorem c_laws_eqKey (a : List Value) (A_a : KeyT) (b : List Value) (A_b : KeyT) (w : World) (hv_a : RKeyT w A_a a) (hv_b : RKeyT w A_b b) : Gives Try.prog 71 #[(.agg a.toArray), (.agg b.toArray)] w (fun v w' => v = (Bo (sameKey A_a A_b))) := by
  obtain ⟨r1, r3, r5, rfl, h2, h4, h6⟩ := hv_a
  obtain ⟨r7, r9, r11, rfl, h8, h10, h12⟩ := hv_b
  refine enter [(.agg #[(Iv A_a.at_), (Fl r1), (Fl r3), (Fl r5)]), (.agg #[(Iv A_b.at_), (Fl r7), (Fl r9), (Fl r11)]), Ud, Ud, Ud, Ud, Ud, Ud, Ud, Ud, Ud, Ud, Ud, Ud, Ud, Ud] Try.func71 rfl Try.ntmps71 rfl ?_
  refine wp_seq_k fun K13 hK13 => ?_
  refine wp_region_lit ?_
  refine seqd rfl rfl (does_box (u := (.agg #[(Iv A_a.at_), (Fl r1), (Fl r3), (Fl r5)])) (ev rfl)) ?_; rintro _ w18 ⟨b14, rfl, hb15, hB16, E17⟩
  have g19 : w.heap.size ≤ b14 := Nat.le_trans (Below.size (Ext.refl w)) hb15
  change Blk _ _ [(Iv A_a.at_), (Fl r1), (Fl r3), (Fl r5)] at hB16
  have X20 := Ext.gr (Ext.refl w) E17
  show wpList _ _ _ _ (fr [(.agg #[(Iv A_a.at_), (Fl r1), (Fl r3), (Fl r5)]), (.agg #[(Iv A_b.at_), (Fl r7), (Fl r9), (Fl r11)]), (Pt b14 0), Ud, Ud, Ud, Ud, Ud, Ud, Ud, Ud, Ud, Ud, Ud, Ud, Ud]) _
  refine seqd rfl rfl (does_box (u := (.agg #[(Iv A_b.at_), (Fl r7), (Fl r9), (Fl r11)])) (ev rfl)) ?_; rintro _ w25 ⟨b21, rfl, hb22, hB23, E24⟩
  have n26 : b14 < b21 := Nat.lt_of_lt_of_le (Blk.lt hB16) hb22
  have g27 : w.heap.size ≤ b21 := Nat.le_trans (Below.size X20) hb22
  change Blk _ _ [(Iv A_b.at_), (Fl r7), (Fl r9), (Fl r11)] at hB23
  have X28 := Ext.gr X20 E24
  show wpList _ _ _ _ (fr [(.agg #[(Iv A_a.at_), (Fl r1), (Fl r3), (Fl r5)]), (.agg #[(Iv A_b.at_), (Fl r7), (Fl r9), (Fl r11)]), (Pt b14 0), (Pt b21 0), Ud, Ud, Ud, Ud, Ud, Ud, Ud, Ud, Ud, Ud, Ud, Ud]) _
  refine q_is (l' := [(.agg #[(Iv A_a.at_), (Fl r1), (Fl r3), (Fl r5)]), (.agg #[(Iv A_b.at_), (Fl r7), (Fl r9), (Fl r11)]), (Pt b14 0), (Pt b21 0), (Bo false), Ud, Ud, Ud, Ud, Ud, Ud, Ud, Ud, Ud, Ud, Ud]) rfl rfl (does_assign (u := (Bo false)) (ev rfl)) rfl ?_
  refine wpList_nil (hK13 _ _ ?_)
  refine wp_seq_k fun K29 hK29 => ?_
  refine wp_seq_k fun K30 hK30 => ?_
  refine wp_region_lit ?_
  refine q_is (l' := [(.agg #[(Iv A_a.at_), (Fl r1), (Fl r3), (Fl r5)]), (.agg #[(Iv A_b.at_), (Fl r7), (Fl r9), (Fl r11)]), (Pt b14 0), (Pt b21 0), (Bo false), (Pt b14 0), Ud, Ud, Ud, Ud, Ud, Ud, Ud, Ud, Ud, Ud]) rfl rfl (does_fieldAddr (ev rfl) fa119_0) rfl ?_
  refine q_is (l' := [(.agg #[(Iv A_a.at_), (Fl r1), (Fl r3), (Fl r5)]), (.agg #[(Iv A_b.at_), (Fl r7), (Fl r9), (Fl r11)]), (Pt b14 0), (Pt b21 0), (Bo false), (Pt b14 0), (Iv A_a.at_), Ud, Ud, Ud, Ud, Ud, Ud, Ud, Ud, Ud]) rfl rfl (does_load (u := (Iv A_a.at_)) (ev rfl) Try.isAgg2 (Cells.at (Blk.cells (hB16.ext E24)) 0 rfl)) rfl ?_
  refine q_is (l' := [(.agg #[(Iv A_a.at_), (Fl r1), (Fl r3), (Fl r5)]), (.agg #[(Iv A_b.at_), (Fl r7), (Fl r9), (Fl r11)]), (Pt b14 0), (Pt b21 0), (Bo false), (Pt b14 0), (Iv A_a.at_), (Pt b21 0), Ud, Ud, Ud, Ud, Ud, Ud, Ud, Ud]) rfl rfl (does_fieldAddr (ev rfl) fa119_0) rfl ?_
  refine q_is (l' := [(.agg #[(Iv A_a.at_), (Fl r1), (Fl r3), (Fl r5)]), (.agg #[(Iv A_b.at_), (Fl r7), (Fl r9), (Fl r11)]), (Pt b14 0), (Pt b21 0), (Bo false), (Pt b14 0), (Iv A_a.at_), (Pt b21 0), (Iv A_b.at_), Ud, Ud, Ud, Ud, Ud, Ud, Ud]) rfl rfl (does_load (u := (Iv A_b.at_)) (ev rfl) Try.isAgg2 (Cells.at (Blk.cells hB23) 0 rfl)) rfl ?_
  refine q_is (l' := [(.agg #[(Iv A_a.at_), (Fl r1), (Fl r3), (Fl r5)]), (.agg #[(Iv A_b.at_), (Fl r7), (Fl r9), (Fl r11)]), (Pt b14 0), (Pt b21 0), (Bo false), (Pt b14 0), (Iv A_a.at_), (Pt b21 0), (Iv A_b.at_), (Bo (icmp .neq A_a.at_ A_b.at_)), Ud, Ud, Ud, Ud, Ud, Ud]) rfl rfl (does_icmp (p := A_a.at_) (q := A_b.at_) (.inr (.inl rfl)) (ev rfl) (ev rfl)) rfl ?_
  refine wpList_nil (hK30 _ _ ?_)
  refine wp_cond_split (t := icmp .neq A_a.at_ A_b.at_) (ev rfl) (fun c31 => ?_) (fun c31 => ?_)
  · have c31' := c31
    (try simp only [icmp, Bool.and_eq_true, Bool.or_eq_true, Bool.and_eq_false_iff, Bool.or_eq_false_iff, Bool.not_eq_true', Bool.not_eq_false', decide_eq_true_eq, decide_eq_false_iff_not, beq_iff_eq, bne_iff_ne, beq_eq_false_iff_ne, bne_eq_false_iff_eq] at c31')
    refine wp_seq_k fun K32 hK32 => ?_
    refine wp_region_lit ?_
    refine q_is (l' := [(.agg #[(Iv A_a.at_), (Fl r1), (Fl r3), (Fl r5)]), (.agg #[(Iv A_b.at_), (Fl r7), (Fl r9), (Fl r11)]), (Pt b14 0), (Pt b21 0), (Bo false), (Pt b14 0), (Iv A_a.at_), (Pt b21 0), (Iv A_b.at_), (Bo (icmp .neq A_a.at_ A_b.at_)), Ud, Ud, Ud, Ud, Ud, Ud]) rfl rfl (does_assign (u := (Bo false)) (ev rfl)) rfl ?_
    refine wpList_nil (hK32 _ _ ?_)
    refine wp_ret ?_
    dsimp only [Exit.then, Exit.inBlock]
    refine ret_val (v := (Bo false)) (res_T rfl (slot rfl)) X28 ?_
    try simp only [h2, h4, h6, h8, h10, h12] at c31
    have x33 : (sameKey A_a A_b) = false := by first | with_reducible rfl | (simp only [sameKey, icmp, h2, h4, h6, h8, h10, h12, c31]; done) | (simp [sameKey, icmp, h2, h4, h6, h8, h10, h12, c31]; done) | (revert c31; simp +contextual [sameKey, icmp, h2, h4, h6, h8, h10, h12]; done) | (rcases c31' with hh | hh <;> simp only [hh, sameKey, icmp, h2, h4, h6, h8, h10, h12, c31]; done) | (rcases c31' with hh | hh <;> simp_all [sameKey, icmp]; done) | (rcases c31' with hh | hh | hh <;> simp_all [sameKey, icmp]; done) | (rcases c31' with hh | hh | hh | hh <;> simp_all [sameKey, icmp]; done) | (simp_all [sameKey, icmp]; done) | rfl
    exact (by first | with_reducible rfl | rw [x33] | rfl)
  have c31' := c31
  (try simp only [icmp, Bool.and_eq_true, Bool.or_eq_true, Bool.and_eq_false_iff, Bool.or_eq_false_iff, Bool.not_eq_true', Bool.not_eq_false', decide_eq_true_eq, decide_eq_false_iff_not, beq_iff_eq, bne_iff_ne, beq_eq_false_iff_ne, bne_eq_false_iff_eq] at c31')
  refine wp_skip (hK29 _ _ ?_)
  refine wp_seq_k fun K34 hK34 => ?_
  refine wp_seq_k fun K35 hK35 => ?_
  refine wp_region_lit ?_
  refine q_is (l' := [(.agg #[(Iv A_a.at_), (Fl r1), (Fl r3), (Fl r5)]), (.agg #[(Iv A_b.at_), (Fl r7), (Fl r9), (Fl r11)]), (Pt b14 0), (Pt b21 0), (Bo false), (Pt b14 0), (Iv A_a.at_), (Pt b21 0), (Iv A_b.at_), (Bo (icmp .neq A_a.at_ A_b.at_)), (Pt b14 1), Ud, Ud, Ud, Ud, Ud]) rfl rfl (does_fieldAddr (ev rfl) fa119_1) rfl ?_
  refine q_is (l' := [(.agg #[(Iv A_a.at_), (Fl r1), (Fl r3), (Fl r5)]), (.agg #[(Iv A_b.at_), (Fl r7), (Fl r9), (Fl r11)]), (Pt b14 0), (Pt b21 0), (Bo false), (Pt b14 0), (Iv A_a.at_), (Pt b21 0), (Iv A_b.at_), (Bo (icmp .neq A_a.at_ A_b.at_)), (Pt b14 1), (.agg #[(Fl r1), (Fl r3), (Fl r5)]), Ud, Ud, Ud, Ud]) rfl rfl (does_loadAgg (cs := [(Fl r1), (Fl r3), (Fl r5)]) (ev rfl) Try.isAgg40 Try.sizeOf40 (Cells.sub (Blk.cells (hB16.ext E24)) 1 3) rfl) rfl ?_
  refine q_is (l' := [(.agg #[(Iv A_a.at_), (Fl r1), (Fl r3), (Fl r5)]), (.agg #[(Iv A_b.at_), (Fl r7), (Fl r9), (Fl r11)]), (Pt b14 0), (Pt b21 0), (Bo false), (Pt b14 0), (Iv A_a.at_), (Pt b21 0), (Iv A_b.at_), (Bo (icmp .neq A_a.at_ A_b.at_)), (Pt b14 1), (.agg #[(Fl r1), (Fl r3), (Fl r5)]), (Pt b21 1), Ud, Ud, Ud]) rfl rfl (does_fieldAddr (ev rfl) fa119_1) rfl ?_
  refine q_is (l' := [(.agg #[(Iv A_a.at_), (Fl r1), (Fl r3), (Fl r5)]), (.agg #[(Iv A_b.at_), (Fl r7), (Fl r9), (Fl r11)]), (Pt b14 0), (Pt b21 0), (Bo false), (Pt b14 0), (Iv A_a.at_), (Pt b21 0), (Iv A_b.at_), (Bo (icmp .neq A_a.at_ A_b.at_)), (Pt b14 1), (.agg #[(Fl r1), (Fl r3), (Fl r5)]), (Pt b21 1), (.agg #[(Fl r7), (Fl r9), (Fl r11)]), Ud, Ud]) rfl rfl (does_loadAgg (cs := [(Fl r7), (Fl r9), (Fl r11)]) (ev rfl) Try.isAgg40 Try.sizeOf40 (Cells.sub (Blk.cells hB23) 1 3) rfl) rfl ?_
  refine seqd rfl rfl (does_call (args := #[(.agg #[(Fl r1), (Fl r3), (Fl r5)]), (.agg #[(Fl r7), (Fl r9), (Fl r11)])]) cal15 (evs rfl) (c_laws_eqVector [(Fl r1), (Fl r3), (Fl r5)] A_a.place [(Fl r7), (Fl r9), (Fl r11)] A_b.place _ ⟨r1, r3, r5, rfl, h2, h4, h6⟩ ⟨r7, r9, r11, rfl, h8, h10, h12⟩)) ?_; rintro _ w37 ⟨E36, rfl⟩
  have X38 := Ext.gr X28 E36
  show wpList _ _ _ _ (fr [(.agg #[(Iv A_a.at_), (Fl r1), (Fl r3), (Fl r5)]), (.agg #[(Iv A_b.at_), (Fl r7), (Fl r9), (Fl r11)]), (Pt b14 0), (Pt b21 0), (Bo false), (Pt b14 0), (Iv A_a.at_), (Pt b21 0), (Iv A_b.at_), (Bo (icmp .neq A_a.at_ A_b.at_)), (Pt b14 1), (.agg #[(Fl r1), (Fl r3), (Fl r5)]), (Pt b21 1), (.agg #[(Fl r7), (Fl r9), (Fl r11)]), (Bo (sameV A_a.place A_b.place)), Ud]) _
  refine q_is (l' := [(.agg #[(Iv A_a.at_), (Fl r1), (Fl r3), (Fl r5)]), (.agg #[(Iv A_b.at_), (Fl r7), (Fl r9), (Fl r11)]), (Pt b14 0), (Pt b21 0), (Bo false), (Pt b14 0), (Iv A_a.at_), (Pt b21 0), (Iv A_b.at_), (Bo (icmp .neq A_a.at_ A_b.at_)), (Pt b14 1), (.agg #[(Fl r1), (Fl r3), (Fl r5)]), (Pt b21 1), (.agg #[(Fl r7), (Fl r9), (Fl r11)]), (Bo (sameV A_a.place A_b.place)), (Bo (!(sameV A_a.place A_b.place)))]) rfl rfl (does_not (ev rfl)) rfl ?_
  refine wpList_nil (hK35 _ _ ?_)
  refine wp_cond_split (t := !(sameV A_a.place A_b.place)) (ev rfl) (fun c39 => ?_) (fun c39 => ?_)
  · rw [Bool.not_eq_true'] at c39
    have c39' := c39
    refine wp_seq_k fun K40 hK40 => ?_
    refine wp_region_lit ?_
    refine q_is (l' := [(.agg #[(Iv A_a.at_), (Fl r1), (Fl r3), (Fl r5)]), (.agg #[(Iv A_b.at_), (Fl r7), (Fl r9), (Fl r11)]), (Pt b14 0), (Pt b21 0), (Bo false), (Pt b14 0), (Iv A_a.at_), (Pt b21 0), (Iv A_b.at_), (Bo (icmp .neq A_a.at_ A_b.at_)), (Pt b14 1), (.agg #[(Fl r1), (Fl r3), (Fl r5)]), (Pt b21 1), (.agg #[(Fl r7), (Fl r9), (Fl r11)]), (Bo (sameV A_a.place A_b.place)), (Bo (!(sameV A_a.place A_b.place)))]) rfl rfl (does_assign (u := (Bo false)) (ev rfl)) rfl ?_
    refine wpList_nil (hK40 _ _ ?_)
    refine wp_ret ?_
    dsimp only [Exit.then, Exit.inBlock]
    refine ret_val (v := (Bo false)) (res_T rfl (slot rfl)) X38 ?_
    try simp only [h2, h4, h6, h8, h10, h12] at c31 c39
    have x41 : (sameKey A_a A_b) = false := by first | with_reducible rfl | (simp only [sameKey, icmp, h2, h4, h6, h8, h10, h12, c31, c39]; done) | (simp [sameKey, icmp, h2, h4, h6, h8, h10, h12, c31, c39]; done) | (revert c31 c39; simp +contextual [sameKey, icmp, h2, h4, h6, h8, h10, h12]; done) | (rcases c31' with hh | hh <;> simp only [hh, sameKey, icmp, h2, h4, h6, h8, h10, h12, c31, c39]; done) | (rcases c39' with hh | hh <;> simp only [hh, sameKey, icmp, h2, h4, h6, h8, h10, h12, c31, c39]; done) | (rcases c39' with hh | hh <;> simp_all [sameKey, icmp]; done) | (rcases c39' with hh | hh | hh <;> simp_all [sameKey, icmp]; done) | (rcases c39' with hh | hh | hh | hh <;> simp_all [sameKey, icmp]; done) | (simp_all [sameKey, icmp]; done) | rfl
    exact (by first | with_reducible rfl | rw [x41] | rfl)
  rw [Bool.not_eq_false'] at c39
  have c39' := c39
  refine wp_skip (hK34 _ _ ?_)
  refine wp_seq_k fun K42 hK42 => ?_
  refine wp_region_lit ?_
  refine q_is (l' := [(.agg #[(Iv A_a.at_), (Fl r1), (Fl r3), (Fl r5)]), (.agg #[(Iv A_b.at_), (Fl r7), (Fl r9), (Fl r11)]), (Pt b14 0), (Pt b21 0), (Bo true), (Pt b14 0), (Iv A_a.at_), (Pt b21 0), (Iv A_b.at_), (Bo (icmp .neq A_a.at_ A_b.at_)), (Pt b14 1), (.agg #[(Fl r1), (Fl r3), (Fl r5)]), (Pt b21 1), (.agg #[(Fl r7), (Fl r9), (Fl r11)]), (Bo (sameV A_a.place A_b.place)), (Bo (!(sameV A_a.place A_b.place)))]) rfl rfl (does_assign (u := (Bo true)) (ev rfl)) rfl ?_
  refine wpList_nil (hK42 _ _ ?_)
  refine wp_ret ?_
  refine ret_val (v := (Bo true)) (res_T rfl (slot rfl)) X38 ?_
  try simp only [h2, h4, h6, h8, h10, h12] at c31 c39
  have x43 : (sameKey A_a A_b) = true := by first | with_reducible rfl | (simp only [sameKey, icmp, h2, h4, h6, h8, h10, h12, c31, c39]; done) | (simp [sameKey, icmp, h2, h4, h6, h8, h10, h12, c31, c39]; done) | (revert c31 c39; simp +contextual [sameKey, icmp, h2, h4, h6, h8, h10, h12]; done) | (rcases c31' with hh | hh <;> simp only [hh, sameKey, icmp, h2, h4, h6, h8, h10, h12, c31, c39]; done) | (rcases c39' with hh | hh <;> simp only [hh, sameKey, icmp, h2, h4, h6, h8, h10, h12, c31, c39]; done) | (rcases c39' with hh | hh <;> simp_all [sameKey, icmp]; done) | (rcases c39' with hh | hh | hh <;> simp_all [sameKey, icmp]; done) | (rcases c39' with hh | hh | hh | hh <;> simp_all [sameKey, icmp]; done) | (simp_all [sameKey, icmp]; done) | rfl
  exact (by first | with_reducible rfl | rw [x43] | rfl)

/- laws.eqKeyS -/
theorem c_laws_eqKeyS (a : Value) (L_a : List KeyT) (b : Value) (L_b : List KeyT) (w : World) (hv_a : Sl RKeyT 4 w a L_a) (hv_b : Sl RKeyT 4 w b L_b) : Gives Try.prog 38 #[a, b] w (fun v w' => v = (Bo (sameX sameKey L_a L_b))) := by
  have hlen_a := Sl.len hv_a; obtain ⟨p_a, q_a, rfl⟩ := Sl.shape hv_a
  have hlen_b := Sl.len hv_b; obtain ⟨p_b, q_b, rfl⟩ := Sl.shape hv_b
  refine enter [(.slice p_a L_a.length q_a), (.slice p_b L_b.length q_b), Ud, Ud, Ud, Ud, Ud, Ud, Ud, Ud, Ud, Ud, Ud, Ud, Ud, Ud, Ud, Ud, Ud, Ud, Ud, Ud, Ud, Ud, Ud, Ud, Ud] Try.func38 rfl Try.ntmps38 rfl ?_
  refine wp_seq_k fun K1 hK1 => ?_
  refine wp_region_lit ?_
  refine q_is rfl rfl (does_assign (u := (Bo false)) (ev rfl)) (by dsimp only [List.set]; try rfl) ?_
  refine wpList_nil (hK1 _ _ ?_)
  refine wp_seq_k fun K2 hK2 => ?_
  refine wp_seq_k fun K3 hK3 => ?_
  refine wp_region_lit ?_
  refine q_is rfl rfl (does_move (u := (.slice p_a L_a.length q_a)) (ev rfl)) (by dsimp only [List.set]; try rfl) ?_
  refine q_is rfl rfl (does_len_slice Try.underlying43 (ev rfl)) (by dsimp only [List.set]; try rfl) ?_
  refine q_is rfl rfl (does_move (u := (.slice p_b L_b.length q_b)) (ev rfl)) (by dsimp only [List.set]; try rfl) ?_
  refine q_is rfl rfl (does_len_slice Try.underlying43 (ev rfl)) (by dsimp only [List.set]; try rfl) ?_
  refine q_is rfl rfl (does_icmp (p := (L_a.length : Int)) (q := (L_b.length : Int)) (.inr (.inl rfl)) (ev rfl) (ev rfl)) (by dsimp only [List.set]; try rfl) ?_
  refine wpList_nil (hK3 _ _ ?_)
  refine wp_cond_split (t := icmp .neq (L_a.length : Int) (L_b.length : Int)) (ev rfl) (fun c4 => ?_) (fun c4 => ?_)
  · have c4' := c4
    (try simp only [icmp, Bool.and_eq_true, Bool.or_eq_true, Bool.and_eq_false_iff, Bool.or_eq_false_iff, Bool.not_eq_true', Bool.not_eq_false', decide_eq_true_eq, decide_eq_false_iff_not, beq_iff_eq, bne_iff_ne, beq_eq_false_iff_ne, bne_eq_false_iff_eq] at c4')
    refine wp_seq_k fun K5 hK5 => ?_
    refine wp_region_lit ?_
    refine q_is rfl rfl (does_assign (u := (Bo false)) (ev rfl)) (by dsimp only [List.set]; try rfl) ?_
    refine wpList_nil (hK5 _ _ ?_)
    refine wp_ret ?_
    dsimp only [Exit.then, Exit.inBlock]
    refine ret_val (v := (Bo false)) (res_T rfl (slot rfl)) (Ext.refl w) ?_
    have x6 : (sameX sameKey L_a L_b) = false := by first | exact (sameX_len (by omega)) | exact (sameX_not (by omega) (by assumption) (by assumption) (by simp_all)) | exact (sameX_all (by omega) (by omega) hs)
    exact (by first | with_reducible rfl | rw [x6] | rfl)
  have c4' := c4
  (try simp only [icmp, Bool.and_eq_true, Bool.or_eq_true, Bool.and_eq_false_iff, Bool.or_eq_false_iff, Bool.not_eq_true', Bool.not_eq_false', decide_eq_true_eq, decide_eq_false_iff_not, beq_iff_eq, bne_iff_ne, beq_eq_false_iff_ne, bne_eq_false_iff_eq] at c4')
  refine wp_skip (hK2 _ _ ?_)
  refine wp_seq_k fun K7 hK7 => ?_
  refine wp_seq_k fun K8 hK8 => ?_
  refine wp_region_lit ?_
  refine q_is rfl rfl (does_assign (u := (Iv 0)) (ev rfl)) (by dsimp only [List.set]; try rfl) ?_
  refine wpList_nil (hK8 _ _ ?_)
  refine wp_block ?_
  refine loop_ghost (σ := Nat) (fun k a w' => ∃ u9 : Nat → Value, a = fr [(.slice p_a L_a.length q_a), (.slice p_b L_b.length q_b), Ud, Ud, (u9 4), (Iv (k : Int)), (.slice p_a L_a.length q_a), (Iv (L_a.length : Int)), (.slice p_b L_b.length q_b), (Iv (L_b.length : Int)), (Bo (icmp .neq (L_a.length : Int) (L_b.length : Int))), (u9 11), (u9 12), (u9 13), (u9 14), (u9 15), (u9 16), (u9 17), (u9 18), (u9 19), (u9 20), (u9 21), (u9 22), (u9 23), (u9 24), (u9 25), (u9 26)] ∧ Ext w w' ∧ (k ≤ L_a.length ∧ SameXTo sameKey L_a L_b k)) (fun k => L_a.length - k) 0 ?_ ?_
  · refine ⟨fun t => (([(.slice p_a L_a.length q_a), (.slice p_b L_b.length q_b), Ud, Ud, (Bo false), (Iv 0), (.slice p_a L_a.length q_a), (Iv (L_a.length : Int)), (.slice p_b L_b.length q_b), (Iv (L_b.length : Int)), (Bo (icmp .neq (L_a.length : Int) (L_b.length : Int))), Ud, Ud, Ud, Ud, Ud, Ud, Ud, Ud, Ud, Ud, Ud, Ud, Ud, Ud, Ud, Ud] : List Value)[t]?).getD undef, rfl, Ext.refl _, ?_⟩
    exact ⟨Nat.zero_le _, SameXTo.zero⟩
  · rintro k a w10 ⟨u9, rfl, E11, ⟨hk, hs⟩⟩
    have X13 := Ext.gr (Ext.refl w) E11
    refine wp_seq_k fun K14 hK14 => ?_
    refine wp_seq_k fun K15 hK15 => ?_
    refine wp_region_lit ?_
    refine q_is rfl rfl (does_move (u := (Iv (k : Int))) (ev rfl)) (by dsimp only [List.set]; try rfl) ?_
    refine q_is rfl rfl (does_move (u := (.slice p_a L_a.length q_a)) (ev rfl)) (by dsimp only [List.set]; try rfl) ?_
    refine q_is rfl rfl (does_len_slice Try.underlying43 (ev rfl)) (by dsimp only [List.set]; try rfl) ?_
    refine q_is rfl rfl (does_icmp (p := (k : Int)) (q := (L_a.length : Int)) (.inr (.inr (.inl rfl))) (ev rfl) (ev rfl)) (by dsimp only [List.set]; try rfl) ?_
    refine wpList_nil (hK15 _ _ ?_)
    refine wp_cond_split (t := icmp .lss (k : Int) (L_a.length : Int)) (ev rfl) (fun c16 => ?_) (fun c16 => ?_)
    · have c16' := c16
      (try simp only [icmp, Bool.and_eq_true, Bool.or_eq_true, Bool.and_eq_false_iff, Bool.or_eq_false_iff, Bool.not_eq_true', Bool.not_eq_false', decide_eq_true_eq, decide_eq_false_iff_not, beq_iff_eq, bne_iff_ne, beq_eq_false_iff_ne, bne_eq_false_iff_eq] at c16')
      refine wp_skip (hK14 _ _ ?_)
      refine wp_seq_k fun K17 hK17 => ?_
      refine wp_block ?_
      refine wp_seq_k fun K18 hK18 => ?_
      obtain ⟨el1, hel1⟩ : ∃ e, L_a[k]? = some e := ⟨_, List.getElem?_eq_getElem (by omega)⟩
      obtain ⟨el2, hel2⟩ : ∃ e, L_b[k]? = some e := ⟨_, List.getElem?_eq_getElem (by omega)⟩
      refine region_draw (
        [Fact.pure [] (fun v => v = (.slice p_a L_a.length q_a)),
    Fact.pure [] (fun v => v = (Iv (k : Int))),
    Fact.mem [17, 18] (fun v w' => PtrR RKeyT w' v el1) (by intro v w1 w2 hx h; exact h.ext RKeyT.mono hx),
    Fact.pure [19] (fun v => ∃ cs_1 : List Value, v = (.agg cs_1.toArray) ∧ RKeyT w el1 cs_1),
    Fact.pure [] (fun v => v = (.slice p_b L_b.length q_b)),
    Fact.pure [] (fun v => v = (Iv (k : Int))),
    Fact.mem [21, 22] (fun v w' => PtrR RKeyT w' v el2) (by intro v w1 w2 hx h; exact h.ext RKeyT.mono hx),
    Fact.pure [23] (fun v => ∃ cs_1 : List Value, v = (.agg cs_1.toArray) ∧ RKeyT w el2 cs_1),
    Fact.pure [20, 24] (fun v => v = (Bo (sameKey el1 el2))),
    Fact.pure [25] (fun v => v = (Bo (!(sameKey el1 el2))))]) mixed (by kernel_rfl) (by intro _ _ d _ _ h; cases d <;> exact h) ?_
      obtain ⟨w19, hw21⟩ : ∃ w', w' = World.drew w10 := ⟨_, rfl⟩; rw [← hw21]; have E20 : Ext w10 w19 := by rw [hw21]; exact Ext.draw _
      clear hw21
      have X22 := Ext.gr X13 E20
      refine RW_d _ rfl (fun v => by dsimp only [List.set]; try rfl) (fun u hu hF => ?_) (fun v23 => ?_)
      · clear hF
        refine doesG_un rfl ?_
        refine (does_move (u := (.slice p_a L_a.length q_a)) (ev rfl)).mono ?_; rintro _ _ ⟨rfl, rfl⟩
        exact ⟨rfl, Ext.refl _⟩
      refine RW_d _ rfl (fun v => by dsimp only [List.set]; try rfl) (fun u hu hF => ?_) (fun v24 => ?_)
      · clear hF
        refine doesG_un rfl ?_
        refine (does_move (u := (Iv (k : Int))) (ev rfl)).mono ?_; rintro _ _ ⟨rfl, rfl⟩
        exact ⟨rfl, Ext.refl _⟩
      refine RW_d _ rfl (fun v => by dsimp only [List.set]; try rfl) (fun u hu hF => ?_) (fun v25 => ?_)
      · have h17_ : v23 = (.slice p_a L_a.length q_a) := hF.1
        have h18_ : v24 = (Iv (k : Int)) := hF.2.1
        clear hF
        refine doesG_un rfl ?_
        obtain rfl := h17_
        obtain rfl := h18_
        refine (does_indexSl (R := RKeyT) (i := (k : Int)) (xs := L_a) (e := el1) Try.underlying43 Try.sizeOf119 (ev rfl) (ev rfl) (Sl.ext (Sl.ext hv_a RKeyT.mono (Ext.gr X13 E20)) RKeyT.mono hu) (by omega) hel1).mono ?_; rintro v u' ⟨b, of, cs, hv, hc, hR, hu'⟩; subst hu'
        exact ⟨⟨b, of, cs, hv, hc, hR⟩, Ext.refl _⟩
      refine RW_d _ rfl (fun v => by dsimp only [List.set]; try rfl) (fun u hu hF => ?_) (fun v26 => ?_)
      · have h19_ : PtrR RKeyT u v25 el1 := hF.1
        clear hF
        refine doesG_un rfl ?_
        obtain ⟨b19_, o19_, _, rfl, hc19_, ⟨r19_1, r19_3, r19_5, rfl, h19_2, h19_4, h19_6⟩⟩ := h19_
        refine (does_loadAgg (cs := [(Iv el1.at_), (Fl r19_1), (Fl r19_3), (Fl r19_5)]) (ev rfl) Try.isAgg119 Try.sizeOf119 hc19_ rfl).mono ?_; rintro _ _ ⟨rfl, rfl⟩
        exact ⟨⟨[(Iv el1.at_), (Fl r19_1), (Fl r19_3), (Fl r19_5)], rfl, ⟨r19_1, r19_3, r19_5, rfl, (by first | assumption | rfl), (by first | assumption | rfl), (by first | assumption | rfl)⟩⟩, Ext.refl _⟩
      refine RW_d _ rfl (fun v => by dsimp only [List.set]; try rfl) (fun u hu hF => ?_) (fun v27 => ?_)
      · clear hF
        refine doesG_un rfl ?_
        refine (does_move (u := (.slice p_b L_b.length q_b)) (ev rfl)).mono ?_; rintro _ _ ⟨rfl, rfl⟩
        exact ⟨rfl, Ext.refl _⟩
      refine RW_d _ rfl (fun v => by dsimp only [List.set]; try rfl) (fun u hu hF => ?_) (fun v28 => ?_)
      · clear hF
        refine doesG_un rfl ?_
        refine (does_move (u := (Iv (k : Int))) (ev rfl)).mono ?_; rintro _ _ ⟨rfl, rfl⟩
        exact ⟨rfl, Ext.refl _⟩
      refine RW_d _ rfl (fun v => by dsimp only [List.set]; try rfl) (fun u hu hF => ?_) (fun v29 => ?_)
      · have h21_ : v27 = (.slice p_b L_b.length q_b) := hF.1
        have h22_ : v28 = (Iv (k : Int)) := hF.2.1
        clear hF
        refine doesG_un rfl ?_
        obtain rfl := h21_
        obtain rfl := h22_
        refine (does_indexSl (R := RKeyT) (i := (k : Int)) (xs := L_b) (e := el2) Try.underlying43 Try.sizeOf119 (ev rfl) (ev rfl) (Sl.ext (Sl.ext hv_b RKeyT.mono (Ext.gr X13 E20)) RKeyT.mono hu) (by omega) hel2).mono ?_; rintro v u' ⟨b, of, cs, hv, hc, hR, hu'⟩; subst hu'
        exact ⟨⟨b, of, cs, hv, hc, hR⟩, Ext.refl _⟩
      refine RW_d _ rfl (fun v => by dsimp only [List.set]; try rfl) (fun u hu hF => ?_) (fun v30 => ?_)
      · have h23_ : PtrR RKeyT u v29 el2 := hF.1
        clear hF
        refine doesG_un rfl ?_
        obtain ⟨b23_, o23_, _, rfl, hc23_, ⟨r23_1, r23_3, r23_5, rfl, h23_2, h23_4, h23_6⟩⟩ := h23_
        refine (does_loadAgg (cs := [(Iv el2.at_), (Fl r23_1), (Fl r23_3), (Fl r23_5)]) (ev rfl) Try.isAgg119 Try.sizeOf119 hc23_ rfl).mono ?_; rintro _ _ ⟨rfl, rfl⟩
        exact ⟨⟨[(Iv el2.at_), (Fl r23_1), (Fl r23_3), (Fl r23_5)], rfl, ⟨r23_1, r23_3, r23_5, rfl, (by first | assumption | rfl), (by first | assumption | rfl), (by first | assumption | rfl)⟩⟩, Ext.refl _⟩
      refine RW_d _ rfl (fun v => by dsimp only [List.set]; try rfl) (fun u hu hF => ?_) (fun v31 => ?_)
      · have h20_ : ∃ cs_1 : List Value, v26 = (.agg cs_1.toArray) ∧ RKeyT w el1 cs_1 := hF.1
        have h24_ : ∃ cs_1 : List Value, v30 = (.agg cs_1.toArray) ∧ RKeyT w el2 cs_1 := hF.2.1
        clear hF
        refine doesG_un rfl ?_
        obtain ⟨_, rfl, ⟨r20_1, r20_3, r20_5, rfl, h20_2, h20_4, h20_6⟩⟩ := h20_
        obtain ⟨_, rfl, ⟨r24_1, r24_3, r24_5, rfl, h24_2, h24_4, h24_6⟩⟩ := h24_
        refine (does_call (args := #[(.agg #[(Iv el1.at_), (Fl r20_1), (Fl r20_3), (Fl r20_5)]), (.agg #[(Iv el2.at_), (Fl r24_1), (Fl r24_3), (Fl r24_5)])]) cal71 (evs rfl) (c_laws_eqKey [(Iv el1.at_), (Fl r20_1), (Fl r20_3), (Fl r20_5)] el1 [(Iv el2.at_), (Fl r24_1), (Fl r24_3), (Fl r24_5)] el2 _ ⟨r20_1, r20_3, r20_5, rfl, (by assumption), (by assumption), (by assumption)⟩ ⟨r24_1, r24_3, r24_5, rfl, (by assumption), (by assumption), (by assumption)⟩)).mono ?_; rintro v u' ⟨hx, hv⟩
        exact ⟨hv.trans (by simp only [h20_2, h20_4, h20_6, h24_2, h24_4, h24_6]), hx⟩
      refine RW_d _ rfl (fun v => by dsimp only [List.set]; try rfl) (fun u hu hF => ?_) (fun v32 => ?_)
      · have h25_ : v31 = (Bo (sameKey el1 el2)) := hF.1
        clear hF
        refine doesG_un rfl ?_
        obtain rfl := h25_
        refine (does_not (ev rfl)).mono ?_; rintro _ _ ⟨rfl, rfl⟩
        exact ⟨rfl, Ext.refl _⟩
      refine RW_fin ?_; intro w33 E34 hP35
      obtain ⟨⟨⟨⟨⟨⟨⟨⟨⟨⟨-, -⟩, -⟩, -⟩, -⟩, -⟩, -⟩, -⟩, -⟩, -⟩, q36⟩ := hP35
      have X37 := Ext.gr X22 E34
      have q36 : v32 = (Bo (!(sameKey el1 el2))) := q36
      obtain rfl := q36
      show wpList _ _ _ _ (fr [_, _, _, _, _, _, _, _, _, _, _, _, _, _, _, _, _, _, _, _, _, _, _, _, _, _, _]) _
      refine wpList_nil (hK18 _ _ ?_)
      refine wp_cond_split (t := !(sameKey el1 el2)) (ev rfl) (fun c38 => ?_) (fun c38 => ?_)
      · rw [Bool.not_eq_true'] at c38
        have c38' := c38
        refine wp_seq_k fun K39 hK39 => ?_
        refine wp_region_lit ?_
        refine q_is rfl rfl (does_assign (u := (Bo false)) (ev rfl)) (by dsimp only [List.set]; try rfl) ?_
        refine wpList_nil (hK39 _ _ ?_)
        refine wp_ret ?_
        dsimp only [Exit.then, Exit.inBlock]
        refine ret_val (v := (Bo false)) (res_T rfl (slot rfl)) X37 ?_
        try simp only [hel1, hel2] at c4 c16 c38
        have x40 : (sameX sameKey L_a L_b) = false := by first | exact (sameX_len (by omega)) | exact (sameX_not (by omega) (by assumption) (by assumption) (by simp_all)) | exact (sameX_all (by omega) (by omega) hs)
        exact (by first | with_reducible rfl | rw [x40] | rfl)
      rw [Bool.not_eq_false'] at c38
      have c38' := c38
      refine wp_skip (hK17 _ _ ?_)
      refine wp_region_lit ?_
      refine q_is rfl rfl (does_move (u := (Iv (k : Int))) (ev rfl)) (by dsimp only [List.set]; try rfl) ?_
      refine q_is rfl rfl (does_iarith (p := (k : Int)) (q := 1) (r := (k : Int) + 1) (ev rfl) (ev rfl) (.inl ⟨rfl, (in_i64 (by omega) (by omega)).symm⟩)) (by dsimp only [List.set]; try rfl) ?_
      refine q_is rfl rfl (does_assign (u := (Iv ((k : Int) + 1))) (ev rfl)) (by dsimp only [List.set]; try rfl) ?_
      refine wpList_nil ?_
      refine ⟨k + 1, ⟨fun t => (([(.slice p_a L_a.length q_a), (.slice p_b L_b.length q_b), Ud, Ud, (u9 4), (Iv ((k : Int) + 1)), (.slice p_a L_a.length q_a), (Iv (L_a.length : Int)), (.slice p_b L_b.length q_b), (Iv (L_b.length : Int)), (Bo (icmp .neq (L_a.length : Int) (L_b.length : Int))), (Iv (k : Int)), (.slice p_a L_a.length q_a), (Iv (L_a.length : Int)), (Bo (icmp .lss (k : Int) (L_a.length : Int))), (Iv (k : Int)), (Iv ((k : Int) + 1)), v23, v24, v25, v26, v27, v28, v29, v30, v31, (Bo (!(sameKey el1 el2)))] : List Value)[t]?).getD undef, ?_, (Ext.gr (Ext.gr E11 E20) E34), ?_⟩, ?_⟩
      · first | rfl | (simp only [Nat.cast_add, Nat.cast_one, Int.natCast_add, Int.natCast_one]; rfl)
      · exact ⟨by omega, SameXTo.step hs (by assumption) (by assumption) (by simp_all)⟩
      · omega
    have c16' := c16
    (try simp only [icmp, Bool.and_eq_true, Bool.or_eq_true, Bool.and_eq_false_iff, Bool.or_eq_false_iff, Bool.not_eq_true', Bool.not_eq_false', decide_eq_true_eq, decide_eq_false_iff_not, beq_iff_eq, bne_iff_ne, beq_eq_false_iff_ne, bne_eq_false_iff_eq] at c16')
    refine wp_exit ?_
    refine hK7 _ _ ?_
    refine wp_seq_k fun K41 hK41 => ?_
    refine wp_region_lit ?_
    refine q_is rfl rfl (does_assign (u := (Bo true)) (ev rfl)) (by dsimp only [List.set]; try rfl) ?_
    refine wpList_nil (hK41 _ _ ?_)
    refine wp_ret ?_
    refine ret_val (v := (Bo true)) (res_T rfl (slot rfl)) X13 ?_
    have x42 : (sameX sameKey L_a L_b) = true := by first | exact (sameX_len (by omega)) | exact (sameX_not (by omega) (by assumption) (by assumption) (by simp_all)) | exact (sameX_all (by omega) (by omega) hs)
    exact (by first | with_reducible rfl | rw [x42] | rfl)

end Go.Proofs.Ytiagimgdjngnfaa
