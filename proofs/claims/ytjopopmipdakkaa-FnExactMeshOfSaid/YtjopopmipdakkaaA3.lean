/- contracts of functions, each walked once -/
import Derived.Test.YtjopopmipdakkaaA0
namespace Go.Proofs.Ytjopopmipdakkaa
open Go Go.RowKit
set_option maxRecDepth 100000
set_option maxHeartbeats 3200000
set_option linter.unusedVariables false
set_option linter.unusedSimpArgs false

/- spec.l07Place -/
theorem c_spec_l07Place (b_ : Nat) (g_b : Nat) (g_o : Nat) (g : List Value) (A_g : GridT) (x : Int) (y : Int) (z : Int) (p_ : Int) (q_ : Int) (vp : Value) (PS : List V3) (gp : Nat) (vt : Value) (KN : List Int) (gk : Nat) (gkn : Nat) (gkc : Nat) (w : World) (w1 : World) (hx1 : Ext w w1) (hc_g : Cells w g_b g_o g) (hv_g : RGridT w A_g g) (h0_b_ : w.heap.size ≤ b_) (h0_gp : w.heap.size ≤ gp) (h0_gk : w.heap.size ≤ gk) (hne_gp_b_ : gp ≠ b_) (hne_gk_b_ : gk ≠ b_) (hne_gk_gp : gk ≠ gp) (hB_b_ : Blk w1 b_ [vp, vt, (.slice (some ⟨gk, 0, none⟩) gkn gkc)]) (hO_vp : ∀ B, Own RV3 3 35 gp B w1 vp PS) (hR_gk : RowG RI 1 w1 gk KN) (hn_gk : KN.length = gkn) (hcap_gk : gkn ≤ gkc) (hgr : isGrid A_g = true) (hcel : isCel A_g x y z = true ∧ 0 ≤ x ∧ 0 ≤ y ∧ 0 ≤ z) (hpq : 0 ≤ p_ ∧ p_ < q_ ∧ q_ ≤ 7 ∧ offC A_g p_ + offC A_g (q_ - p_) = offC A_g q_) (hkl : KN.length = 8 * A_g.vals.length) (hpl : PS.length ≤ 8192) : GivesK [b_, gp, gk] Try.prog 51 #[(Pt b_ 0), (Pt g_b g_o), (Iv x), (Iv y), (Iv z), (Iv p_), (Iv q_)] w1 (fun v w' => (v = (Iv (iAt (knP KN PS.length (keyE A_g x y z p_ q_)) (keyE A_g x y z p_ q_).toNat))) ∧ ∃ vp' : Value, Blk w' b_ [vp', vt, (.slice (some ⟨gk, 0, none⟩) gkn gkc)] ∧ Own RV3 3 35 gp w1.heap.size w' vp' (psP A_g KN PS (keyE A_g x y z p_ q_)) ∧ RowG RI 1 w' gk (knP KN PS.length (keyE A_g x y z p_ q_))) := by
  obtain ⟨r1, r3, r5, r7, y9, rfl, h2, h4, h6, h8, h10⟩ := hv_g
  have hs13 := h10; have hs13l := Sl.len h10; obtain ⟨p11, q12, rfl⟩ := Sl.shape h10
  obtain ⟨p14, q15, rfl⟩ := Own.shape (hO_vp 0)
  have hlt_gk := RowG.lt hR_gk
  have hlt_b_ := Blk.lt hB_b_
  have hgc := isGrid_cnt hgr
  have hcc := cel_all hgr hcel.1 hcel.2
  obtain ⟨hc1, hc2, hc3⟩ := hcc p_ ⟨by omega, by omega⟩
  obtain ⟨hd1, hd2, hd3⟩ := hcc q_ ⟨by omega, by omega⟩
  have hk8 : keyE A_g x y z p_ q_ / 8 = crnI A_g x y z p_ ∧ keyE A_g x y z p_ q_ % 8 = q_ - p_ := key_div (f := crnI A_g x y z p_) ⟨hpq.1, hpq.2.1, hpq.2.2.1⟩
  have hcl := isCel_iff.1 hcel.1
  refine enterK [(Pt b_ 0), (Pt g_b g_o), (Iv x), (Iv y), (Iv z), (Iv p_), (Iv q_), Ud, Ud, Ud, Ud, Ud, Ud, Ud, Ud, Ud, Ud, Ud, Ud, Ud, Ud, Ud, Ud, Ud, Ud, Ud, Ud, Ud, Ud, Ud, Ud, Ud, Ud, Ud, Ud, Ud, Ud, Ud, Ud, Ud, Ud, Ud, Ud, Ud, Ud, Ud, Ud, Ud, Ud, Ud, Ud, Ud, Ud, Ud, Ud, Ud, Ud, Ud, Ud, Ud, Ud, Ud, Ud, Ud, Ud, Ud, Ud, Ud, Ud, Ud, Ud, Ud, Ud, Ud, Ud, Ud, Ud, Ud, Ud, Ud, Ud, Ud, Ud, Ud, Ud, Ud, Ud, Ud, Ud, Ud, Ud, Ud, Ud, Ud, Ud, Ud, Ud, Ud, Ud, Ud, Ud, Ud] Try.func51 rfl Try.ntmps51 rfl ?_
  refine wr fun _ K17 => ?_
  refine ja (Iv 0) ?_
  refine wn K17 ?_
  refine wr fun _ K18 => ?_
  refine jm (Pt g_b g_o) ?_
  refine jm (Iv x) ?_
  refine jm (Iv y) ?_
  refine jm (Iv z) ?_
  refine jm (Iv p_) ?_
  refine sd (does_call (args := #[(Pt g_b g_o), (Iv x), (Iv y), (Iv z), (Iv p_)]) cal49 (evs rfl) (c_spec_l07Corner g_b g_o [(Fl r1), (Fl r3), (Fl r5), (Fl r7), (Iv A_g.x), (Iv A_g.y), (Iv A_g.z), (.slice p11 A_g.vals.length q12)] A_g x y z p_ _ (hc_g.ext hx1) ⟨r1, r3, r5, r7, (.slice p11 A_g.vals.length q12), rfl, h2, h4, h6, h8, (Sl.ext hs13 RF.mono hx1)⟩ (by omega) (by omega))) ?_; rintro _ w20 ⟨E19, rfl⟩
  have X21 := Ext.gr hx1 E19
  refine fz ?_
  refine ja (Iv (crnI A_g x y z p_)) ?_
  refine wn K18 ?_
  refine wr fun _ K22 => ?_
  refine jm (Pt g_b g_o) ?_
  refine jm (Iv x) ?_
  refine jm (Iv y) ?_
  refine jm (Iv z) ?_
  refine jm (Iv q_) ?_
  refine sd (does_call (args := #[(Pt g_b g_o), (Iv x), (Iv y), (Iv z), (Iv q_)]) cal49 (evs rfl) (c_spec_l07Corner g_b g_o [(Fl r1), (Fl r3), (Fl r5), (Fl r7), (Iv A_g.x), (Iv A_g.y), (Iv A_g.z), (.slice p11 A_g.vals.length q12)] A_g x y z q_ _ (hc_g.ext X21) ⟨r1, r3, r5, r7, (.slice p11 A_g.vals.length q12), rfl, h2, h4, h6, h8, (Sl.ext hs13 RF.mono X21)⟩ (by omega) (by omega))) ?_; rintro _ w24 ⟨E23, rfl⟩
  have X25 := Ext.gr X21 E23
  refine fz ?_
  refine ja (Iv (crnI A_g x y z q_)) ?_
  refine wn K22 ?_
  refine wr fun _ K26 => ?_
  refine jm (Iv (crnI A_g x y z p_)) ?_
  refine jj (does_iarith (p := 8) (q := crnI A_g x y z p_) (r := 8 * (crnI A_g x y z p_)) (ev rfl) (ev rfl) (.inr (.inr ⟨rfl, (in_i64 (by omega) (by omega)).symm⟩))) ?_
  refine jm (Iv q_) ?_
  refine jj (does_iarith (p := 8 * (crnI A_g x y z p_)) (q := q_) (r := (8 * (crnI A_g x y z p_)) + q_) (ev rfl) (ev rfl) (.inl ⟨rfl, (in_i64 (by omega) (by omega)).symm⟩)) ?_
  refine jm (Iv p_) ?_
  refine jj (does_iarith (p := (8 * (crnI A_g x y z p_)) + q_) (q := p_) (r := ((8 * (crnI A_g x y z p_)) + q_) - p_) (ev rfl) (ev rfl) (.inr (.inl ⟨rfl, (in_i64 (by omega) (by omega)).symm⟩))) ?_
  refine ja (Iv (((8 * (crnI A_g x y z p_)) + q_) - p_)) ?_
  refine wn K26 ?_
  refine ws fun _ K27 => ?_
  refine wr fun _ K28 => ?_
  refine jm (Pt b_ 0) ?_
  refine jj (does_nilCheck (ev rfl)) ?_
  refine jj (does_fieldAddr (ev rfl) fa67_1) ?_
  refine jj (does_load (u := (.slice (some ⟨gk, 0, none⟩) gkn gkc)) (ev rfl) Try.isAgg65 (Cells.at (Blk.cells ((hB_b_.ext E19).ext E23)) 2 rfl)) ?_
  refine jm (Iv (((8 * (crnI A_g x y z p_)) + q_) - p_)) ?_
  refine jj (does_indexOwn (b := gk) (n := gkn) (i := ((8 * (crnI A_g x y z p_)) + q_) - p_) Try.underlying65 Try.sizeOf2 (ev rfl) (ev rfl) (by omega) (by omega)) ?_
  obtain ⟨el1, hel1⟩ : ∃ e, KN[((((8 * (crnI A_g x y z p_)) + q_) - p_).toNat)]? = some e := ⟨_, List.getElem?_eq_getElem (by first | assumption | omega | (simp only [List.length_set, List.length_replicate]; omega) | (simp only [List.length_set, List.length_replicate]; done) | exact rfl)⟩
  refine jj (does_loadRowI (xs := KN) (i := ((((8 * (crnI A_g x y z p_)) + q_) - p_).toNat)) (e := el1) (ev rfl) Try.isAgg2 (RowG.ext (RowG.ext hR_gk RI.flat E19) RI.flat E23) rfl hel1) ?_
  refine jj (does_icmp (p := el1) (q := 0) (.inr (.inr (.inl rfl))) (ev rfl) (ev rfl)) ?_
  refine wn K28 ?_
  refine wp_cond_split (t := icmp .lss el1 0) (ev rfl) (fun c29 => ?_) (fun c29 => ?_)
  · have c29' := c29
    (try simp only [icmp, bs] at c29')
    refine wr fun _ K30 => ?_
    refine jm (Pt g_b g_o) ?_
    refine jj (does_nilCheck (ev rfl)) ?_
    refine jj (does_fieldAddr (ev rfl) fa37_5) ?_
    refine jj (does_load (u := (.slice p11 A_g.vals.length q12)) (ev rfl) Try.isAgg25 (Cells.at (hc_g.ext X25) 7 rfl)) ?_
    refine jm (Iv (crnI A_g x y z p_)) ?_
    obtain ⟨el2, hel2⟩ : ∃ e, A_g.vals[(crnI A_g x y z p_).toNat]? = some e := ⟨_, List.getElem?_eq_getElem (by omega)⟩
    refine sd (does_indexSl0 (R := RF) (i := crnI A_g x y z p_) (xs := A_g.vals) (e := el2) Try.underlying25 Try.sizeOf22 (ev rfl) (ev rfl) hs13 (by omega) hel2) ?_; rintro _ w24 ⟨b31, o32, _, rfl, hc34, ⟨r35, rfl, h36⟩, rfl⟩
    refine fz ?_
    refine jj (does_load (u := (Fl r35)) (ev rfl) Try.isAgg22 (Cells.at (hc34.ext X25) 0 rfl)) ?_
    refine ja (Fl r35) ?_
    refine wn K30 ?_
    refine wr fun _ K37 => ?_
    refine jm (Pt g_b g_o) ?_
    refine jj (does_nilCheck (ev rfl)) ?_
    refine jj (does_fieldAddr (ev rfl) fa37_5) ?_
    refine jj (does_load (u := (.slice p11 A_g.vals.length q12)) (ev rfl) Try.isAgg25 (Cells.at (hc_g.ext X25) 7 rfl)) ?_
    refine jm (Iv (crnI A_g x y z q_)) ?_
    obtain ⟨el3, hel3⟩ : ∃ e, A_g.vals[(crnI A_g x y z q_).toNat]? = some e := ⟨_, List.getElem?_eq_getElem (by omega)⟩
    refine sd (does_indexSl0 (R := RF) (i := crnI A_g x y z q_) (xs := A_g.vals) (e := el3) Try.underlying25 Try.sizeOf22 (ev rfl) (ev rfl) hs13 (by omega) hel3) ?_; rintro _ w24 ⟨b38, o39, _, rfl, hc41, ⟨r42, rfl, h43⟩, rfl⟩
    refine fz ?_
    refine jj (does_load (u := (Fl r42)) (ev rfl) Try.isAgg22 (Cells.at (hc41.ext X25) 0 rfl)) ?_
    refine ja (Fl r42) ?_
    refine wn K37 ?_
    refine ws fun _ K44 => ?_
    refine region_draw (
      [Fact.pure [] (fun v => v = (Pt b_ 0)),
    Fact.pure [60] (fun v => v = (Pt b_ 0)),
    Fact.pure [61] (fun v => v = (Pt b_ 2)),
    Fact.pure [62] (fun v => v = (.slice (some ⟨gk, 0, none⟩) gkn gkc)),
    Fact.pure [] (fun v => v = (Iv (((8 * (crnI A_g x y z p_)) + q_) - p_))),
    Fact.pure [] (fun v => v = (Pt b_ 0)),
    Fact.pure [65] (fun v => v = (Pt b_ 0)),
    Fact.pure [66] (fun v => v = (Pt b_ 0)),
    Fact.pure [67] (fun v => v = (Pt b_ 0)),
    Fact.pure [68] (fun v => v = (.slice p14 PS.length q15)),
    Fact.pure [69] (fun v => v = (Iv (PS.length : Int))),
    Fact.pure [63, 64] (fun v => v = (Pt gk (((((8 * (crnI A_g x y z p_)) + q_) - p_).toNat) * 1)))]) mixed (by kernel_rfl) (by intro _ _ d _ _ h; cases d <;> exact h) ?_
    obtain ⟨w45, hw47⟩ : ∃ w', w' = World.drew w24 := ⟨_, rfl⟩; rw [← hw47]; have E46 : Ext w24 w45 := by rw [hw47]; exact Ext.draw _
    clear hw47
    have X48 := Ext.gr X25 E46
    refine R_p (fun u hu _ => does_move (u := (Pt b_ 0)) (ev rfl)) fun v49 => ?_
    refine R_p (fun u hu hF => ?_) fun v50 => ?_
    · have h60_ : v49 = (Pt b_ 0) := hF.1
      clear hF; subst h60_
      exact does_nilCheck (ev rfl)
    refine R_p (fun u hu hF => ?_) fun v51 => ?_
    · have h61_ : v50 = (Pt b_ 0) := hF.1
      clear hF; subst h61_
      exact does_fieldAddr (ev rfl) fa67_1
    refine R_p (fun u hu hF => ?_) fun v52 => ?_
    · have h62_ : v51 = (Pt b_ 2) := hF.1
      clear hF; subst h62_
      exact does_load (u := (.slice (some ⟨gk, 0, none⟩) gkn gkc)) (ev rfl) Try.isAgg65 (Cells.at (Blk.cells ((((hB_b_.ext E19).ext E23).ext E46).ext hu)) 2 rfl)
    refine R_p (fun u hu _ => does_move (u := (Iv (((8 * (crnI A_g x y z p_)) + q_) - p_))) (ev rfl)) fun v53 => ?_
    refine R_p (fun u hu _ => does_move (u := (Pt b_ 0)) (ev rfl)) fun v54 => ?_
    refine R_p (fun u hu hF => ?_) fun v55 => ?_
    · have h65_ : v54 = (Pt b_ 0) := hF.1
      clear hF; subst h65_
      exact does_nilCheck (ev rfl)
    refine R_p (fun u hu hF => ?_) fun v56 => ?_
    · have h66_ : v55 = (Pt b_ 0) := hF.1
      clear hF; subst h66_
      exact does_fieldAddr (ev rfl) fa67_0
    refine R_p (fun u hu hF => ?_) fun v57 => ?_
    · have h67_ : v56 = (Pt b_ 0) := hF.1
      clear hF; subst h67_
      exact does_fieldAddr (ev rfl) fa32_0
    refine R_p (fun u hu hF => ?_) fun v58 => ?_
    · have h68_ : v57 = (Pt b_ 0) := hF.1
      clear hF; subst h68_
      exact does_load (u := (.slice p14 PS.length q15)) (ev rfl) Try.isAgg29 (Cells.at (Blk.cells ((((hB_b_.ext E19).ext E23).ext E46).ext hu)) 0 rfl)
    refine R_p (fun u hu hF => ?_) fun v59 => ?_
    · have h69_ : v58 = (.slice p14 PS.length q15) := hF.1
      clear hF; subst h69_
      exact does_len_slice Try.underlying29 (ev rfl)
    refine R_p (fun u hu hF => ?_) fun v60 => ?_
    · have h63_ : v52 = (.slice (some ⟨gk, 0, none⟩) gkn gkc) := hF.1
      have h64_ : v53 = (Iv (((8 * (crnI A_g x y z p_)) + q_) - p_)) := hF.2.1
      clear hF; subst h63_ h64_
      exact does_indexOwn (b := gk) (n := gkn) (i := ((8 * (crnI A_g x y z p_)) + q_) - p_) Try.underlying65 Try.sizeOf2 (ev rfl) (ev rfl) (by omega) (by omega)
    refine RW_fin ?_; intro w61 E62 hP63
    obtain ⟨⟨⟨⟨⟨⟨⟨⟨⟨⟨⟨⟨-, -⟩, -⟩, -⟩, -⟩, -⟩, -⟩, -⟩, -⟩, -⟩, -⟩, q64⟩, q65⟩ := hP63
    have X66 := Ext.gr X48 E62
    have q64 : v59 = (Iv (PS.length : Int)) := q64
    obtain rfl := q64
    have q65 : v60 = (Pt gk (((((8 * (crnI A_g x y z p_)) + q_) - p_).toNat) * 1)) := q65
    obtain rfl := q65
    refine fz ?_
    refine sn (does_storeRowG (R := RI) (k := 1) (xs := KN) (i := ((((8 * (crnI A_g x y z p_)) + q_) - p_).toNat)) (u := (Iv (PS.length : Int))) (e := (PS.length : Int)) (ev rfl) (ev rfl) Try.sizeOf2 rfl rfl RI.flat (RowG.ext (RowG.ext (RowG.ext (RowG.ext hR_gk RI.flat E19) RI.flat E23) RI.flat E46) RI.flat E62) rfl (by first | assumption | omega | (simp only [List.length_set, List.length_replicate]; omega) | (simp only [List.length_set, List.length_replicate]; done) | exact rfl) rfl) ?_; rintro _ w69 ⟨rfl, W67, hR68⟩
    have X70 := Below.wr X66 W67 h0_gk
    refine wn K44 ?_
    have n79 : b_ < w69.heap.size := Blk.lt (((((hB_b_.ext E19).ext E23).ext E46).ext E62).wr W67 (Ne.symm hne_gk_b_))
    obtain ⟨gg74, hg75, hg76, hA77⟩ := Own.startN (hO_vp _) ((Own.klA' (fun B_ => Own.ext ((fun B_ => Own.ext ((fun B_ => Own.ext ((fun B_ => Own.ext (hO_vp B_) RV3.flat E19) B_) RV3.flat E23) B_) RV3.flat E46) B_) RV3.flat E62) RV3.flat (KpL.of_wr W67) (allS hne_gk_gp all0)) _) (Nat.le_trans (Nat.le_trans (Nat.le_trans (Nat.le_trans (Below.size E19) (Below.size E23)) (Below.size E46)) (Below.size E62)) (Nat.le_of_eq (Eq.symm (Wr.size W67))))
    refine region_any2 [gg74] [0, 0, 2, 6, 14, 30, 0, 0, 192, 0, 0, 1984, 0, 0, 0, 24576, 61440, 131008, 262080, 524286, 1048575, 2097151, 4194303, 8388607] [0] (
      [FactW.pure [] [0] [0] true (fun v => v = (Pt b_ 0)),
        FactW.pure [] [] [0] true (fun v => v = (Pt b_ 0)),
        FactW.pure [1] [] [0] true (fun v => v = (Pt b_ 0)),
        FactW.pure [2] [] [0] true (fun v => v = (Pt b_ 0)),
        FactW.pure [3] [] [0] true (fun v => v = (Pt b_ 0)),
        FactW.pure [4] [] [0] true (fun v => v = (.slice p14 PS.length q15)),
        FactW.pure [] [] [0] true (fun v => v = (Pt g_b g_o)),
        FactW.pure [] [] [0] true (fun v => v = (Iv (crnI A_g x y z p_))),
        FactW.pure [6, 7] [] [0] true (fun v => ∃ cs_1 : List Value, v = (.agg cs_1.toArray) ∧ RV3 w (atG A_g (crnI A_g x y z p_)) cs_1),
        FactW.pure [] [] [0] true (fun v => v = (Pt g_b g_o)),
        FactW.pure [] [] [0] true (fun v => v = (Iv (crnI A_g x y z q_))),
        FactW.pure [9, 10] [] [0] true (fun v => ∃ cs_1 : List Value, v = (.agg cs_1.toArray) ∧ RV3 w (atG A_g (crnI A_g x y z q_)) cs_1),
        FactW.pure [] [] [0] true (fun v => v = (Fl r35)),
        FactW.pure [] [] [0] true (fun v => v = (Fl r35)),
        FactW.pure [] [] [0] true (fun v => v = (Fl r42)),
        FactW.pure [13, 14] [] [0] true (fun v => ∃ r_1 : Nat, v = (Fl r_1) ∧ cf .f32 r_1 = fop .sub .f32 (cf .f32 r35) (cf .f32 r42)),
        FactW.pure [12, 15] [] [0] true (fun v => ∃ r_1 : Nat, v = (Fl r_1) ∧ cf .f32 r_1 = fop .quo .f32 (cf .f32 r35) (fop .sub .f32 (cf .f32 r35) (cf .f32 r42))),
        FactW.pure [8, 11, 16] [] [0] true (fun v => ∃ cs_1 : List Value, v = (.agg cs_1.toArray) ∧ RV3 w (btwV (atG A_g (crnI A_g x y z p_)) (atG A_g (crnI A_g x y z q_)) (fop .quo .f32 (cf .f32 r35) (fop .sub .f32 (cf .f32 r35) (cf .f32 r42)))) cs_1),
        FactW.mem [17] [] [] [] false (fun v w' => ∃ b : Nat, ∃ r_1 : Nat, ∃ r_2 : Nat, ∃ r_3 : Nat, v = .slice (some ⟨b, 0, none⟩) 1 1 ∧ w69.heap.size ≤ b ∧ Blk w' b [(Fl r_1), (Fl r_2), (Fl r_3)] ∧ cf .f32 r_1 = (btwV (atG A_g (crnI A_g x y z p_)) (atG A_g (crnI A_g x y z q_)) (fop .quo .f32 (cf .f32 r35) (fop .sub .f32 (cf .f32 r35) (cf .f32 r42)))).x ∧ cf .f32 r_2 = (btwV (atG A_g (crnI A_g x y z p_)) (atG A_g (crnI A_g x y z q_)) (fop .quo .f32 (cf .f32 r35) (fop .sub .f32 (cf .f32 r35) (cf .f32 r42)))).y ∧ cf .f32 r_3 = (btwV (atG A_g (crnI A_g x y z p_)) (atG A_g (crnI A_g x y z q_)) (fop .quo .f32 (cf .f32 r35) (fop .sub .f32 (cf .f32 r35) (cf .f32 r42)))).z) (by rintro v w1 w2 hx' ⟨b, z0, z1, z2, rfl, hb, hB, k0, k1, k2⟩; have hx := KpL.toExt hx'; exact ⟨b, z0, z1, z2, rfl, hb, (hB.ext hx), k0, k1, k2⟩),
        FactW.mem [5, 18] [] [0] [] true (fun v w' => Own RV3 3 35 gg74 w69.heap.size w' v (PS ++ [(btwV (atG A_g (crnI A_g x y z p_)) (atG A_g (crnI A_g x y z q_)) (fop .quo .f32 (cf .f32 r35) (fop .sub .f32 (cf .f32 r35) (cf .f32 r42))))])) (by intro v w1 w2 hx h; exact Own.ext h RV3.flat (KpL.toExt hx))]) mixed (by kernel_rfl) ?_
    obtain ⟨w71, hw73⟩ : ∃ w', w' = World.drew w69 := ⟨_, rfl⟩; rw [← hw73]; have E72 : Ext w69 w71 := by rw [hw73]; exact Ext.draw _
    clear hw73
    refine R2_d (fun u hu hF => ?_) (fun v88 => ?_)
    · replace hu : KpL [gg74] _ _ := hu
      clear hF
      refine doesG_un rfl ?_
      refine (does_move (u := (Pt b_ 0)) (ev rfl)).mono ?_; rintro _ _ ⟨rfl, rfl⟩
      exact ⟨rfl, KpL.refl _ _⟩
    refine R2_p (fun u hu _ => does_move (u := (Pt b_ 0)) (ev rfl)) fun v89 => ?_
    refine R2_p (fun u hu hF => ?_) fun v90 => ?_
    · have h73_ : v89 = (Pt b_ 0) := hF.1
      clear hF; subst h73_
      exact does_nilCheck (ev rfl)
    refine R2_p (fun u hu hF => ?_) fun v91 => ?_
    · have h74_ : v90 = (Pt b_ 0) := hF.1
      clear hF; subst h74_
      exact does_fieldAddr (ev rfl) fa67_0
    refine R2_p (fun u hu hF => ?_) fun v92 => ?_
    · have h75_ : v91 = (Pt b_ 0) := hF.1
      clear hF; subst h75_
      exact does_fieldAddr (ev rfl) fa32_0
    refine R2_p (fun u hu hF => ?_) fun v93 => ?_
    · have h76_ : v92 = (Pt b_ 0) := hF.1
      clear hF; subst h76_
      exact does_load (u := (.slice p14 PS.length q15)) (ev rfl) Try.isAgg29 (Cells.at (Blk.cells (((((((hB_b_.ext E19).ext E23).ext E46).ext E62).wr W67 (Ne.symm hne_gk_b_)).ext E72).ext (KpL.toExt hu))) 0 rfl)
    refine R2_p (fun u hu _ => does_move (u := (Pt g_b g_o)) (ev rfl)) fun v94 => ?_
    refine R2_p (fun u hu _ => does_move (u := (Iv (crnI A_g x y z p_))) (ev rfl)) fun v95 => ?_
    refine R2_d (fun u hu hF => ?_) (fun v96 => ?_)
    · replace hu : KpL [] _ _ := hu
      have h78_ : v94 = (Pt g_b g_o) := hF.1
      have h79_ : v95 = (Iv (crnI A_g x y z p_)) := hF.2.1
      clear hF
      refine doesG_un rfl ?_
      obtain rfl := h78_
      obtain rfl := h79_
      refine (does_call (args := #[(Pt g_b g_o), (Iv (crnI A_g x y z p_))]) cal67 (evs rfl) (c_spec_l07At g_b g_o [(Fl r1), (Fl r3), (Fl r5), (Fl r7), (Iv A_g.x), (Iv A_g.y), (Iv A_g.z), (.slice p11 A_g.vals.length q12)] A_g (crnI A_g x y z p_) _ (hc_g.ext (Ext.gr (Ext.gr X70 E72) (KpL.toExt hu))) ⟨r1, r3, r5, r7, (.slice p11 A_g.vals.length q12), rfl, h2, h4, h6, h8, (Sl.ext hs13 RF.mono (Ext.gr (Ext.gr X70 E72) (KpL.toExt hu)))⟩ (by omega) (by omega) (by omega))).mono ?_; rintro v u' ⟨hx, ⟨csn1, hv, k0⟩⟩
      exact ⟨⟨csn1, hv, k0⟩, (KpL.of_ext hx)⟩
    refine R2_p (fun u hu _ => does_move (u := (Pt g_b g_o)) (ev rfl)) fun v97 => ?_
    refine R2_p (fun u hu _ => does_move (u := (Iv (crnI A_g x y z q_))) (ev rfl)) fun v98 => ?_
    refine R2_d (fun u hu hF => ?_) (fun v99 => ?_)
    · replace hu : KpL [] _ _ := hu
      have h81_ : v97 = (Pt g_b g_o) := hF.1
      have h82_ : v98 = (Iv (crnI A_g x y z q_)) := hF.2.1
      clear hF
      refine doesG_un rfl ?_
      obtain rfl := h81_
      obtain rfl := h82_
      refine (does_call (args := #[(Pt g_b g_o), (Iv (crnI A_g x y z q_))]) cal67 (evs rfl) (c_spec_l07At g_b g_o [(Fl r1), (Fl r3), (Fl r5), (Fl r7), (Iv A_g.x), (Iv A_g.y), (Iv A_g.z), (.slice p11 A_g.vals.length q12)] A_g (crnI A_g x y z q_) _ (hc_g.ext (Ext.gr (Ext.gr X70 E72) (KpL.toExt hu))) ⟨r1, r3, r5, r7, (.slice p11 A_g.vals.length q12), rfl, h2, h4, h6, h8, (Sl.ext hs13 RF.mono (Ext.gr (Ext.gr X70 E72) (KpL.toExt hu)))⟩ (by omega) (by omega) (by omega))).mono ?_; rintro v u' ⟨hx, ⟨csn1, hv, k0⟩⟩
      exact ⟨⟨csn1, hv, k0⟩, (KpL.of_ext hx)⟩
    refine R2_p (fun u hu _ => does_move (u := (Fl r35)) (ev rfl)) fun v100 => ?_
    refine R2_p (fun u hu _ => does_move (u := (Fl r35)) (ev rfl)) fun v101 => ?_
    refine R2_p (fun u hu _ => does_move (u := (Fl r42)) (ev rfl)) fun v102 => ?_
    refine R2_d (fun u hu hF => ?_) (fun v103 => ?_)
    · replace hu : KpL [] _ _ := hu
      have h85_ : v101 = (Fl r35) := hF.1
      have h86_ : v102 = (Fl r42) := hF.2.1
      clear hF
      refine doesG_un rfl ?_
      obtain rfl := h85_
      obtain rfl := h86_
      refine (does_float (.inr (.inl rfl)) (ev rfl) (ev rfl)).mono ?_; rintro _ _ ⟨r, rfl, hr, hx⟩
      exact ⟨⟨r, rfl, (by simp only [hr])⟩, (KpL.of_ext hx)⟩
    refine R2_d (fun u hu hF => ?_) (fun v104 => ?_)
    · replace hu : KpL [] _ _ := hu
      have h84_ : v100 = (Fl r35) := hF.1
      have h87_ : ∃ r_1 : Nat, v103 = (Fl r_1) ∧ cf .f32 r_1 = fop .sub .f32 (cf .f32 r35) (cf .f32 r42) := hF.2.1
      clear hF
      refine doesG_un rfl ?_
      obtain rfl := h84_
      obtain ⟨r87_1, rfl, h87_2⟩ := h87_
      refine (does_float (.inr (.inr (.inr rfl))) (ev rfl) (ev rfl)).mono ?_; rintro _ _ ⟨r, rfl, hr, hx⟩
      exact ⟨⟨r, rfl, (by simp only [hr, h87_2])⟩, (KpL.of_ext hx)⟩
    refine R2_d (fun u hu hF => ?_) (fun v105 => ?_)
    · replace hu : KpL [] _ _ := hu
      have h80_ : ∃ cs_1 : List Value, v96 = (.agg cs_1.toArray) ∧ RV3 w (atG A_g (crnI A_g x y z p_)) cs_1 := hF.1
      have h83_ : ∃ cs_1 : List Value, v99 = (.agg cs_1.toArray) ∧ RV3 w (atG A_g (crnI A_g x y z q_)) cs_1 := hF.2.1
      have h88_ : ∃ r_1 : Nat, v104 = (Fl r_1) ∧ cf .f32 r_1 = fop .quo .f32 (cf .f32 r35) (fop .sub .f32 (cf .f32 r35) (cf .f32 r42)) := hF.2.2.1
      clear hF
      refine doesG_un rfl ?_
      obtain ⟨_, rfl, ⟨r80_1, r80_3, r80_5, rfl, h80_2, h80_4, h80_6⟩⟩ := h80_
      obtain ⟨_, rfl, ⟨r83_1, r83_3, r83_5, rfl, h83_2, h83_4, h83_6⟩⟩ := h83_
      obtain ⟨r88_1, rfl, h88_2⟩ := h88_
      refine (does_call (args := #[(.agg #[(Fl r80_1), (Fl r80_3), (Fl r80_5)]), (.agg #[(Fl r83_1), (Fl r83_3), (Fl r83_5)]), (Fl r88_1)]) cal66 (evs rfl) (c_spec_l01Between [(Fl r80_1), (Fl r80_3), (Fl r80_5)] (atG A_g (crnI A_g x y z p_)) [(Fl r83_1), (Fl r83_3), (Fl r83_5)] (atG A_g (crnI A_g x y z q_)) r88_1 _ ⟨r80_1, r80_3, r80_5, rfl, (by assumption), (by assumption), (by assumption)⟩ ⟨r83_1, r83_3, r83_5, rfl, (by assumption), (by assumption), (by assumption)⟩)).mono ?_; rintro v u' ⟨hx, ⟨csn1, hv, k0⟩⟩
      exact ⟨⟨csn1, hv.trans (by simp only [h80_2, h80_4, h80_6, h83_2, h83_4, h83_6, h88_2]), (by first | exact k0 | simpa only [h80_2, h80_4, h80_6, h83_2, h83_4, h83_6, h88_2] using RV3.any (w := w) k0)⟩, (KpL.of_ext hx)⟩
    refine R2_d (fun u hu hF => ?_) (fun v106 => ?_)
    · replace hu : KpL [] _ _ := hu
      have h89_ : ∃ cs_1 : List Value, v105 = (.agg cs_1.toArray) ∧ RV3 w (btwV (atG A_g (crnI A_g x y z p_)) (atG A_g (crnI A_g x y z q_)) (fop .quo .f32 (cf .f32 r35) (fop .sub .f32 (cf .f32 r35) (cf .f32 r42)))) cs_1 := hF.1
      clear hF
      refine doesG_un rfl ?_
      obtain ⟨_, rfl, ⟨r89_1, r89_3, r89_5, rfl, h89_2, h89_4, h89_6⟩⟩ := h89_
      refine (does_buildSlice (e := 35) (parts' := [(0, (.agg #[(Fl r89_1), (Fl r89_3), (Fl r89_5)]))]) (cells := [(Fl r89_1), (Fl r89_3), (Fl r89_5)]) (evp rfl) (fun _ => by kernel_rfl)).mono ?_; rintro _ _ ⟨b, rfl, hb, hB, hx⟩
      exact ⟨⟨b, r89_1, r89_3, r89_5, rfl, Nat.le_trans (Nat.le_trans (Below.size E72) (KpL.size hu)) hb, hB, (by simp only [h89_2, h89_4, h89_6]), (by simp only [h89_2, h89_4, h89_6]), (by simp only [h89_2, h89_4, h89_6])⟩, (KpL.of_ext hx)⟩
    refine R2_d (fun u hu hF => ?_) (fun v107 => ?_)
    · replace hu : KpL [] _ _ := hu
      have h77_ : v93 = (.slice p14 PS.length q15) := hF.1
      have h90_ : ∃ b : Nat, ∃ r_1 : Nat, ∃ r_2 : Nat, ∃ r_3 : Nat, v106 = .slice (some ⟨b, 0, none⟩) 1 1 ∧ w69.heap.size ≤ b ∧ Blk u b [(Fl r_1), (Fl r_2), (Fl r_3)] ∧ cf .f32 r_1 = (btwV (atG A_g (crnI A_g x y z p_)) (atG A_g (crnI A_g x y z q_)) (fop .quo .f32 (cf .f32 r35) (fop .sub .f32 (cf .f32 r35) (cf .f32 r42)))).x ∧ cf .f32 r_2 = (btwV (atG A_g (crnI A_g x y z p_)) (atG A_g (crnI A_g x y z q_)) (fop .quo .f32 (cf .f32 r35) (fop .sub .f32 (cf .f32 r35) (cf .f32 r42)))).y ∧ cf .f32 r_3 = (btwV (atG A_g (crnI A_g x y z p_)) (atG A_g (crnI A_g x y z q_)) (fop .quo .f32 (cf .f32 r35) (fop .sub .f32 (cf .f32 r35) (cf .f32 r42)))).z := hF.2.1
      clear hF
      refine doesG_un rfl ?_
      obtain rfl := h77_
      obtain ⟨b90_, r90_1, r90_2, r90_3, rfl, hb90_, hB90_, e90_0, e90_1, e90_2⟩ := h90_
      refine (does_appendA (R := RV3) (k := 3) (g1 := gg74) (N0 := w69.heap.size) (xs := PS) (ys := [(btwV (atG A_g (crnI A_g x y z p_)) (atG A_g (crnI A_g x y z q_)) (fop .quo .f32 (cf .f32 r35) (fop .sub .f32 (cf .f32 r35) (cf .f32 r42))))]) Try.underlying29 inf35 rfl (by decide) (ev rfl) (ev rfl) (Own.klA (Own.klA hA77 RV3.flat (KpL.of_ext (L := []) E72) nin0) RV3.flat (KpL.of_ext (L := []) (KpL.toExt hu)) nin0) RV3.flat hB90_ rfl rfl rfl (fun i_ x_ hi_ => lit1 (R := RV3) (cs := [(Fl r90_1), (Fl r90_2), (Fl r90_3)]) (y := (btwV (atG A_g (crnI A_g x y z p_)) (atG A_g (crnI A_g x y z q_)) (fop .quo .f32 (cf .f32 r35) (fop .sub .f32 (cf .f32 r35) (cf .f32 r42)))))  (⟨r90_1, r90_2, r90_3, rfl, (by assumption), (by assumption), (by assumption)⟩) i_ x_ hi_) (by first | (simp only [List.length_append, List.length_cons, List.length_nil]; omega) | omega) (Nat.le_trans (Below.size E72) (KpL.size hu))).mono ?_; rintro v u' ⟨hK, hO⟩
      exact ⟨hO, hK⟩
    refine RW2_fin ?_; intro w108 E109 hP110; replace E109 : KpL [gg74] _ _ := E109
    obtain ⟨⟨⟨⟨⟨⟨⟨⟨⟨⟨⟨⟨⟨⟨⟨⟨⟨⟨⟨⟨-, q111⟩, -⟩, -⟩, -⟩, -⟩, -⟩, -⟩, -⟩, -⟩, -⟩, -⟩, -⟩, -⟩, -⟩, -⟩, -⟩, -⟩, -⟩, -⟩, q112⟩ := hP110
    have q111 : v88 = (Pt b_ 0) := q111 rfl
    obtain rfl := q111
    have q112 : Own RV3 3 35 gg74 w69.heap.size w108 v107 (PS ++ [(btwV (atG A_g (crnI A_g x y z p_)) (atG A_g (crnI A_g x y z q_)) (fop .quo .f32 (cf .f32 r35) (fop .sub .f32 (cf .f32 r35) (cf .f32 r42))))]) := q112 rfl
    obtain ⟨p114, q115, rfl⟩ := Own.shape q112
    refine fz ?_
    refine jj (does_nilCheck (ev rfl)) ?_
    refine jj (does_fieldAddr (ev rfl) fa67_0) ?_
    refine jj (does_fieldAddr (ev rfl) fa32_0) ?_
    refine sn (does_store (n := 1) (cs := [(.slice p14 PS.length q15), vt, (.slice (some ⟨gk, 0, none⟩) gkn gkc)]) (u := (.slice p114 ((PS ++ [(btwV (atG A_g (crnI A_g x y z p_)) (atG A_g (crnI A_g x y z q_)) (fop .quo .f32 (cf .f32 r35) (fop .sub .f32 (cf .f32 r35) (cf .f32 r42))))]).length) q115)) (ev rfl) (ev rfl) Try.sizeOf29 rfl (((((((hB_b_.ext E19).ext E23).ext E46).ext E62).wr W67 (Ne.symm hne_gk_b_)).ext E72).kl E109 (ninS (by omega) nin0)) (Nat.le_of_ble_eq_true rfl) rfl) ?_; rintro _ w119 ⟨rfl, W117, hB118⟩
    change Blk _ _ [(.slice p114 ((PS ++ [(btwV (atG A_g (crnI A_g x y z p_)) (atG A_g (crnI A_g x y z q_)) (fop .quo .f32 (cf .f32 r35) (fop .sub .f32 (cf .f32 r35) (cf .f32 r42))))]).length) q115), vt, (.slice (some ⟨gk, 0, none⟩) gkn gkc)] at hB118
    refine wn K27 ?_
    refine wr fun _ K121 => ?_
    refine jm (Pt b_ 0) ?_
    refine jj (does_nilCheck (ev rfl)) ?_
    refine jj (does_fieldAddr (ev rfl) fa67_1) ?_
    refine jj (does_load (u := (.slice (some ⟨gk, 0, none⟩) gkn gkc)) (ev rfl) Try.isAgg65 (Cells.at (Blk.cells hB118) 2 rfl)) ?_
    refine jm (Iv (((8 * (crnI A_g x y z p_)) + q_) - p_)) ?_
    refine jj (does_indexOwn (b := gk) (n := gkn) (i := ((8 * (crnI A_g x y z p_)) + q_) - p_) Try.underlying65 Try.sizeOf2 (ev rfl) (ev rfl) (by omega) (by omega)) ?_
    obtain ⟨el4, hel4⟩ : ∃ e, (KN.set ((((8 * (crnI A_g x y z p_)) + q_) - p_).toNat) (PS.length : Int))[((((8 * (crnI A_g x y z p_)) + q_) - p_).toNat)]? = some e := ⟨_, List.getElem?_eq_getElem (by first | assumption | omega | (simp only [List.length_set, List.length_replicate]; omega) | (simp only [List.length_set, List.length_replicate]; done) | exact rfl)⟩
    refine jj (does_loadRowI (xs := (KN.set ((((8 * (crnI A_g x y z p_)) + q_) - p_).toNat) (PS.length : Int))) (i := ((((8 * (crnI A_g x y z p_)) + q_) - p_).toNat)) (e := el4) (ev rfl) Try.isAgg2 (RowG.kl (RowG.kl (RowG.ext hR68 RI.flat E72) RI.flat E109 (ninS (by omega) nin0)) RI.flat (KpL.of_wr W117) (ninS hne_gk_b_ nin0)) rfl hel4) ?_
    refine ja (Iv el4) ?_
    refine wn K121 ?_
    refine wp_ret ?_
    refine ret_valK (v := (Iv el4)) (res_T rfl (slot rfl)) (KpL.more (KpL.more (KpL.ext (KpL.more (KpL.ext (KpL.ext (KpL.ext (KpL.ext (KpL.refl _ _) E19) E23) E46) E62) (KpL.of_wr W67) (allS (.inl (by simp)) all0)) E72) E109 (allS (hg75.imp (fun h => by simp [h]) id) all0)) (KpL.of_wr W117) (allS (.inl (by simp)) all0)) ?_
    refine ⟨?_, (.slice p114 ((PS ++ [(btwV (atG A_g (crnI A_g x y z p_)) (atG A_g (crnI A_g x y z q_)) (fop .quo .f32 (cf .f32 r35) (fop .sub .f32 (cf .f32 r35) (cf .f32 r42))))]).length) q115), hB118, (Own.cast (ys := (psP A_g KN PS (keyE A_g x y z p_ q_))) (Own.back (Own.kl q112 RV3.flat (KpL.of_wr W117) (allS ⟨(by omega), .inl n79⟩ all0)) hg75 (Nat.le_trans (Nat.le_trans (Nat.le_trans (Nat.le_trans (Below.size E19) (Below.size E23)) (Below.size E46)) (Below.size E62)) (Nat.le_of_eq (Eq.symm (Wr.size W67))))) (by first | exact psP_f hel1 (by have h := c29'; omega) | exact knP_f hel1 (by have h := c29'; omega) | exact knP_t hel1 c29' | (simp only [h2, h4, h6, h8, hel2, h36, hel3, h43]; exact psP_t hel1 c29' hk8.1 (by rw [hk8.2, hc3, hd3]; omega) (vlG_at hel2) (vlG_at hel3)))), (RowG.cast (ys := (knP KN PS.length (keyE A_g x y z p_ q_))) (RowG.kl (RowG.kl (RowG.ext hR68 RI.flat E72) RI.flat E109 (ninS (by omega) nin0)) RI.flat (KpL.of_wr W117) (ninS hne_gk_b_ nin0)) (by first | exact psP_f hel1 (by have h := c29'; omega) | exact knP_f hel1 (by have h := c29'; omega) | exact knP_t hel1 c29' | (simp only [h2, h4, h6, h8, hel2, h36, hel3, h43]; exact psP_t hel1 c29' hk8.1 (by rw [hk8.2, hc3, hd3]; omega) (vlG_at hel2) (vlG_at hel3))))⟩
    try simp only [h2, h4, h6, h8, hel2, h36, hel3, h43] at c29
    have x122 : (iAt (knP KN PS.length (keyE A_g x y z p_ q_)) (keyE A_g x y z p_ q_).toNat : Int) = el4 := by first | exact knA_t hel1 c29' hel4 | exact knA_f hel1 (by have h := c29'; omega)
    exact (by first | with_reducible rfl | rw [x122] | rfl)
  have c29' := c29
  (try simp only [icmp, bs] at c29')
  refine wp_skip (K27 _ _ ?_)
  refine wr fun _ K123 => ?_
  refine jm (Pt b_ 0) ?_
  refine jj (does_nilCheck (ev rfl)) ?_
  refine jj (does_fieldAddr (ev rfl) fa67_1) ?_
  refine jj (does_load (u := (.slice (some ⟨gk, 0, none⟩) gkn gkc)) (ev rfl) Try.isAgg65 (Cells.at (Blk.cells ((hB_b_.ext E19).ext E23)) 2 rfl)) ?_
  refine jm (Iv (((8 * (crnI A_g x y z p_)) + q_) - p_)) ?_
  refine jj (does_indexOwn (b := gk) (n := gkn) (i := ((8 * (crnI A_g x y z p_)) + q_) - p_) Try.underlying65 Try.sizeOf2 (ev rfl) (ev rfl) (by omega) (by omega)) ?_
  refine jj (does_loadRowI (xs := KN) (i := ((((8 * (crnI A_g x y z p_)) + q_) - p_).toNat)) (e := el1) (ev rfl) Try.isAgg2 (RowG.ext (RowG.ext hR_gk RI.flat E19) RI.flat E23) rfl hel1) ?_
  refine ja (Iv el1) ?_
  refine wn K123 ?_
  refine wp_ret ?_
  refine ret_valK (v := (Iv el1)) (res_T rfl (slot rfl)) (KpL.ext (KpL.ext (KpL.refl _ _) E19) E23) ?_
  refine ⟨?_, (.slice p14 PS.length q15), ((hB_b_.ext E19).ext E23), (Own.cast (ys := (psP A_g KN PS (keyE A_g x y z p_ q_))) (Own.same (hO_vp _) RV3.flat (((Same.refl _ _).ext E19).ext E23) h0_gp (Below.size hx1)) (by first | exact psP_f hel1 (by have h := c29'; omega) | exact knP_f hel1 (by have h := c29'; omega) | exact knP_t hel1 c29' | (simp only [h2, h4, h6, h8]; exact psP_t hel1 c29' hk8.1 (by rw [hk8.2, hc3, hd3]; omega) (vlG_at hel2) (vlG_at hel3)))), (RowG.cast (ys := (knP KN PS.length (keyE A_g x y z p_ q_))) (RowG.ext (RowG.ext hR_gk RI.flat E19) RI.flat E23) (by first | exact psP_f hel1 (by have h := c29'; omega) | exact knP_f hel1 (by have h := c29'; omega) | exact knP_t hel1 c29' | (simp only [h2, h4, h6, h8]; exact psP_t hel1 c29' hk8.1 (by rw [hk8.2, hc3, hd3]; omega) (vlG_at hel2) (vlG_at hel3))))⟩
  try simp only [h2, h4, h6, h8] at c29
  have x124 : (iAt (knP KN PS.length (keyE A_g x y z p_ q_)) (keyE A_g x y z p_ q_).toNat : Int) = el1 := by first | exact knA_t hel1 c29' hel4 | exact knA_f hel1 (by have h := c29'; omega)
  exact (by first | with_reducible rfl | rw [x124] | rfl)
/- .. as a step of a mesh in the making, its box open -/
theorem cq_spec_l07Place (b : Nat) (S : MshS) (x y z p_ q_ : Int) (g_b g_o cap : Nat) (g : List Value) (A_g : GridT) (vp vt : Value) (m gp : Nat) (w w1 : World) (hx1 : Ext w w1) (hc_g : Cells w g_b g_o g) (hv_g : RGridT w A_g g) (hB : Blk w1 b ((KW 35 65 cap A_g).box vp vt m)) (hO : ∀ B, Own RV3 3 35 gp B w1 vp (S.1.map (plK A_g))) (hT : (KW 35 65 cap A_g).T m w1 S.1) (hb0 : w.heap.size ≤ b) (hg0 : w.heap.size ≤ gp) (hm0 : w.heap.size ≤ m) (h1 : gp ≠ b) (h2 : m ≠ b) (h3 : m ≠ gp) (hgr : isGrid A_g = true) (hcel : isCel A_g x y z = true ∧ 0 ≤ x ∧ 0 ≤ y ∧ 0 ≤ z) (hpq : 0 ≤ p_ ∧ p_ < q_ ∧ q_ ≤ 7 ∧ offC A_g p_ + offC A_g (q_ - p_) = offC A_g q_) (hok : okS A_g S.1) (hcap : 8 * A_g.vals.length ≤ cap) :
    GivesK [b, gp, m] Try.prog 51 #[Pt b 0, Pt g_b g_o, Iv x, Iv y, Iv z, Iv p_, Iv q_] w1 (fun v w' => v = Iv (numK (addK S.1 (keyE A_g x y z p_ q_)) (keyE A_g x y z p_ q_)) ∧ ∃ vp' : Value, Blk w' b ((KW 35 65 cap A_g).box vp' vt m) ∧ Own RV3 3 35 gp w1.heap.size w' vp' ((addK S.1 (keyE A_g x y z p_ q_)).map (plK A_g)) ∧ (KW 35 65 cap A_g).T m w' (addK S.1 (keyE A_g x y z p_ q_))) := by
  have hcc := cel_all hgr hcel.1 hcel.2
  have hc1 := (hcc p_ ⟨hpq.1, by omega⟩).2.2
  have hc2 := (hcc q_ ⟨by omega, hpq.2.2.1⟩).2.2
  have hkr := key_rng hgr hcel.1 hcel.2 ⟨hpq.1, hpq.2.1, hpq.2.2.1⟩
  have hle := hok.le hgr
  have hr := c_spec_l07Place b g_b g_o g A_g x y z p_ q_ vp (S.1.map (plK A_g)) gp vt (knK A_g S.1) m _ cap w w1 hx1 hc_g hv_g hb0 hg0 hm0 h1 h2 h3 hB hO hT (knK_len _ _) hcap hgr hcel hpq (knK_len _ _) (by rw [List.length_map]; exact hle)
  rw [List.length_map, knP_K hkr, psP_K hkr, knK_at hkr] at hr
  exact hr
/- .. as a step of a mesh in the making -/
theorem cm_spec_l07Place (b : Nat) (L : List Nat) (S : MshS) (x y z p_ q_ : Int) (g_b g_o cap : Nat) (g : List Value) (A_g : GridT) (w w1 : World) (hx1 : Ext w w1) (hc_g : Cells w g_b g_o g) (hv_g : RGridT w A_g g) (h : MX (KW 35 65 cap A_g) w.heap.size A_g b L w1 S) (hgr : isGrid A_g = true) (hcel : isCel A_g x y z = true ∧ 0 ≤ x ∧ 0 ≤ y ∧ 0 ≤ z) (hpq : 0 ≤ p_ ∧ p_ < q_ ∧ q_ ≤ 7 ∧ offC A_g p_ + offC A_g (q_ - p_) = offC A_g q_) (hok : okS A_g S.1) (hcap : 8 * A_g.vals.length ≤ cap) :
    GivesK L Try.prog 51 #[Pt b 0, Pt g_b g_o, Iv x, Iv y, Iv z, Iv p_, Iv q_] w1 (fun v w' => v = Iv (numK (addK S.1 (keyE A_g x y z p_ q_)) (keyE A_g x y z p_ q_)) ∧ ∃ L', MX (KW 35 65 cap A_g) w.heap.size A_g b L' w' (addK S.1 (keyE A_g x y z p_ q_), S.2) ∧ ∀ c ∈ L', c ∈ L ∨ w1.heap.size ≤ c) := by
  obtain ⟨vp, vt, m, gp, hB, hO, hT, hb0, hg0, hm0, h1, h2, h3, hin_, hcl⟩ := h.place
  have hr := cq_spec_l07Place b S x y z p_ q_ g_b g_o cap g A_g vp vt m gp w w1 hx1 hc_g hv_g hB hO hT hb0 hg0 hm0 h1 h2 h3 hgr hcel hpq hok hcap
  refine Calls.mono hr fun e w' ⟨v, he, hK, hv, vp', hB', hO', hM'⟩ => ?_
  obtain ⟨L', hX, hs⟩ := hcl _ w' vp' _ hK (fun _ h => .inl h) hB' hO' hM'
  exact ⟨v, he, (KpL.refl _ _).more hK hin_, hv, L', hX, hs⟩

end Go.Proofs.Ytjopopmipdakkaa
