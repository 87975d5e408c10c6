/- contracts of functions, each walked once -/
import Derived.Test.YtbbidfadenmmjaaT2
namespace Go.Proofs.Ytbbidfadenmmjaa
open Go Go.RowKit
set_option maxRecDepth 100000
set_option maxHeartbeats 3200000
set_option linter.unusedVariables false
set_option linter.unusedSimpArgs false

/- laws.FnExactTilesOf -/
theorem c_laws_FnExactTilesOf (c : List Value) (A_c : CamT) (sz : Int) (w : World) (hv_c : RCamT w A_c c) : Gives Try.prog 10 #[(.agg c.toArray), (Iv sz)] w (fun v w' => v = (Bo true)) := by
  obtain ⟨r1, r3, r5, r7, r9, r11, r13, rfl, h2, h4, h6, h8, h10, h12, h14⟩ := hv_c
  have htl := gtiles_len A_c sz
  refine enter [(.agg #[(Fl r1), (Fl r3), (Fl r5), (Fl r7), (Fl r9), (Fl r11), (Fl r13), (Iv A_c.width), (Iv A_c.height)]), (Iv sz), Ud, Ud, Ud, Ud, Ud, Ud, Ud, Ud, Ud, Ud, Ud, Ud, Ud, Ud, Ud, Ud, Ud, Ud, Ud, Ud, Ud, Ud, Ud, Ud, Ud, Ud, Ud, Ud, Ud, Ud, Ud, Ud, Ud, Ud, Ud, Ud, Ud, Ud, Ud, Ud, Ud, Ud, Ud, Ud, Ud, Ud, Ud, Ud, Ud, Ud, Ud, Ud, Ud, Ud, Ud, Ud, Ud, Ud, Ud, Ud, Ud, Ud, Ud, Ud, Ud, Ud, Ud, Ud, Ud] Try.func10 rfl Try.ntmps10 rfl ?_
  refine wp_seq_k fun K15 hK15 => ?_
  refine wp_region_lit ?_
  refine seqd rfl rfl (does_box (u := (.agg #[(Fl r1), (Fl r3), (Fl r5), (Fl r7), (Fl r9), (Fl r11), (Fl r13), (Iv A_c.width), (Iv A_c.height)])) (ev rfl)) ?_; rintro _ w20 ⟨b16, rfl, hb17, hB18, E19⟩
  have g21 : w.heap.size ≤ b16 := Nat.le_trans (Below.size (Ext.refl w)) hb17
  change Blk _ _ [(Fl r1), (Fl r3), (Fl r5), (Fl r7), (Fl r9), (Fl r11), (Fl r13), (Iv A_c.width), (Iv A_c.height)] at hB18
  have X22 := Ext.gr (Ext.refl w) E19
  show wpList _ _ _ _ (fr [(.agg #[(Fl r1), (Fl r3), (Fl r5), (Fl r7), (Fl r9), (Fl r11), (Fl r13), (Iv A_c.width), (Iv A_c.height)]), (Iv sz), (Pt b16 0), Ud, Ud, Ud, Ud, Ud, Ud, Ud, Ud, Ud, Ud, Ud, Ud, Ud, Ud, Ud, Ud, Ud, Ud, Ud, Ud, Ud, Ud, Ud, Ud, Ud, Ud, Ud, Ud, Ud, Ud, Ud, Ud, Ud, Ud, Ud, Ud, Ud, Ud, Ud, Ud, Ud, Ud, Ud, Ud, Ud, Ud, Ud, Ud, Ud, Ud, Ud, Ud, Ud, Ud, Ud, Ud, Ud, Ud, Ud, Ud, Ud, Ud, Ud, Ud, Ud, Ud, Ud, Ud]) _
  refine q_is rfl rfl (does_assign (u := (Bo false)) (ev rfl)) (by dsimp only [List.set]; try rfl) ?_
  refine wpList_nil (hK15 _ _ ?_)
  refine wp_seq_k fun K23 hK23 => ?_
  refine wp_region_lit ?_
  refine q_is rfl rfl (does_loadAgg (cs := [(Fl r1), (Fl r3), (Fl r5), (Fl r7), (Fl r9), (Fl r11), (Fl r13), (Iv A_c.width), (Iv A_c.height)]) (ev rfl) Try.isAgg45 Try.sizeOf45 (Blk.cells hB18) rfl) (by dsimp only [List.set]; try rfl) ?_
  refine seqd rfl rfl (does_call (args := #[(.agg #[(Fl r1), (Fl r3), (Fl r5), (Fl r7), (Fl r9), (Fl r11), (Fl r13), (Iv A_c.width), (Iv A_c.height)])]) cal24 (evs rfl) (c_laws_toCamera [(Fl r1), (Fl r3), (Fl r5), (Fl r7), (Fl r9), (Fl r11), (Fl r13), (Iv A_c.width), (Iv A_c.height)] A_c _ ⟨r1, r3, r5, r7, r9, r11, r13, rfl, h2, h4, h6, h8, h10, h12, h14⟩)) ?_; rintro _ w25 ⟨E24, ⟨_, rfl, ⟨r26, r28, r30, r32, r34, r36, r38, rfl, h27, h29, h31, h33, h35, h37, h39⟩⟩⟩
  have X40 := Ext.gr X22 E24
  show wpList _ _ _ _ (fr [(.agg #[(Fl r1), (Fl r3), (Fl r5), (Fl r7), (Fl r9), (Fl r11), (Fl r13), (Iv A_c.width), (Iv A_c.height)]), (Iv sz), (Pt b16 0), Ud, (Bo false), Ud, Ud, Ud, Ud, Ud, Ud, Ud, Ud, Ud, (.agg #[(Fl r1), (Fl r3), (Fl r5), (Fl r7), (Fl r9), (Fl r11), (Fl r13), (Iv A_c.width), (Iv A_c.height)]), (.agg #[(Fl r26), (Fl r28), (Fl r30), (Fl r32), (Fl r34), (Fl r36), (Fl r38), (Iv A_c.width), (Iv A_c.height)]), Ud, Ud, Ud, Ud, Ud, Ud, Ud, Ud, Ud, Ud, Ud, Ud, Ud, Ud, Ud, Ud, Ud, Ud, Ud, Ud, Ud, Ud, Ud, Ud, Ud, Ud, Ud, Ud, Ud, Ud, Ud, Ud, Ud, Ud, Ud, Ud, Ud, Ud, Ud, Ud, Ud, Ud, Ud, Ud, Ud, Ud, Ud, Ud, Ud, Ud, Ud, Ud, Ud, Ud, Ud]) _
  refine q_is rfl rfl (does_move (u := (Iv sz)) (ev rfl)) (by dsimp only [List.set]; try rfl) ?_
  refine seqd rfl rfl (does_call (args := #[(.agg #[(Fl r26), (Fl r28), (Fl r30), (Fl r32), (Fl r34), (Fl r36), (Fl r38), (Iv A_c.width), (Iv A_c.height)]), (Iv sz)]) cal37 (evs rfl) (c_spec_TilesOf [(Fl r26), (Fl r28), (Fl r30), (Fl r32), (Fl r34), (Fl r36), (Fl r38), (Iv A_c.width), (Iv A_c.height)] A_c sz _ ⟨r26, r28, r30, r32, r34, r36, r38, rfl, h27, h29, h31, h33, h35, h37, h39⟩)) ?_; rintro _ w42 ⟨E41, ⟨y44, rfl, hh43⟩⟩
  have X45 := Ext.gr X40 E41
  have n46 : b16 < w25.heap.size := Blk.lt (hB18.ext E24)
  obtain ⟨p47, q48, rfl⟩ := Sl.shape hh43.get
  show wpList _ _ _ _ (fr [(.agg #[(Fl r1), (Fl r3), (Fl r5), (Fl r7), (Fl r9), (Fl r11), (Fl r13), (Iv A_c.width), (Iv A_c.height)]), (Iv sz), (Pt b16 0), Ud, (Bo false), Ud, Ud, Ud, Ud, Ud, Ud, Ud, Ud, Ud, (.agg #[(Fl r1), (Fl r3), (Fl r5), (Fl r7), (Fl r9), (Fl r11), (Fl r13), (Iv A_c.width), (Iv A_c.height)]), (.agg #[(Fl r26), (Fl r28), (Fl r30), (Fl r32), (Fl r34), (Fl r36), (Fl r38), (Iv A_c.width), (Iv A_c.height)]), (Iv sz), (.tuple #[(.slice p47 ((gvA [] (tilesOk A_c sz) (tilesC A_c sz)).length) q48), (Bo (tilesOk A_c sz))]), Ud, Ud, Ud, Ud, Ud, Ud, Ud, Ud, Ud, Ud, Ud, Ud, Ud, Ud, Ud, Ud, Ud, Ud, Ud, Ud, Ud, Ud, Ud, Ud, Ud, Ud, Ud, Ud, Ud, Ud, Ud, Ud, Ud, Ud, Ud, Ud, Ud, Ud, Ud, Ud, Ud, Ud, Ud, Ud, Ud, Ud, Ud, Ud, Ud, Ud, Ud, Ud, Ud]) _
  refine q_is rfl rfl (does_move (u := (.tuple #[(.slice p47 ((gvA [] (tilesOk A_c sz) (tilesC A_c sz)).length) q48), (Bo (tilesOk A_c sz))])) (ev rfl)) (by dsimp only [List.set]; try rfl) ?_
  refine q_is rfl rfl (does_extract (vs := #[(.slice p47 ((gvA [] (tilesOk A_c sz) (tilesC A_c sz)).length) q48), (Bo (tilesOk A_c sz))]) (u := (.slice p47 ((gvA [] (tilesOk A_c sz) (tilesC A_c sz)).length) q48)) (ev rfl) rfl) (by dsimp only [List.set]; try rfl) ?_
  refine q_is rfl rfl (does_extract (vs := #[(.slice p47 ((gvA [] (tilesOk A_c sz) (tilesC A_c sz)).length) q48), (Bo (tilesOk A_c sz))]) (u := (Bo (tilesOk A_c sz))) (ev rfl) rfl) (by dsimp only [List.set]; try rfl) ?_
  refine q_is rfl rfl (does_assign (u := (.slice p47 ((gvA [] (tilesOk A_c sz) (tilesC A_c sz)).length) q48)) (ev rfl)) (by dsimp only [List.set]; try rfl) ?_
  refine q_is rfl rfl (does_assign (u := (Bo (tilesOk A_c sz))) (ev rfl)) (by dsimp only [List.set]; try rfl) ?_
  refine wpList_nil (hK23 _ _ ?_)
  refine wp_seq_k fun K49 hK49 => ?_
  refine wp_region_lit ?_
  refine q_is rfl rfl (does_loadAgg (cs := [(Fl r1), (Fl r3), (Fl r5), (Fl r7), (Fl r9), (Fl r11), (Fl r13), (Iv A_c.width), (Iv A_c.height)]) (ev rfl) Try.isAgg45 Try.sizeOf45 (Blk.cells ((hB18.ext E24).ext E41)) rfl) (by dsimp only [List.set]; try rfl) ?_
  refine seqd rfl rfl (does_call (args := #[(.agg #[(Fl r1), (Fl r3), (Fl r5), (Fl r7), (Fl r9), (Fl r11), (Fl r13), (Iv A_c.width), (Iv A_c.height)])]) cal24 (evs rfl) (c_laws_toCamera [(Fl r1), (Fl r3), (Fl r5), (Fl r7), (Fl r9), (Fl r11), (Fl r13), (Iv A_c.width), (Iv A_c.height)] A_c _ ⟨r1, r3, r5, r7, r9, r11, r13, rfl, h2, h4, h6, h8, h10, h12, h14⟩)) ?_; rintro _ w51 ⟨E50, ⟨_, rfl, ⟨r52, r54, r56, r58, r60, r62, r64, rfl, h53, h55, h57, h59, h61, h63, h65⟩⟩⟩
  have X66 := Ext.gr X45 E50
  show wpList _ _ _ _ (fr [(.agg #[(Fl r1), (Fl r3), (Fl r5), (Fl r7), (Fl r9), (Fl r11), (Fl r13), (Iv A_c.width), (Iv A_c.height)]), (Iv sz), (Pt b16 0), Ud, (Bo false), (.slice p47 ((gvA [] (tilesOk A_c sz) (tilesC A_c sz)).length) q48), (Bo (tilesOk A_c sz)), Ud, Ud, Ud, Ud, Ud, Ud, (.tuple #[(.slice p47 ((gvA [] (tilesOk A_c sz) (tilesC A_c sz)).length) q48), (Bo (tilesOk A_c sz))]), (.agg #[(Fl r1), (Fl r3), (Fl r5), (Fl r7), (Fl r9), (Fl r11), (Fl r13), (Iv A_c.width), (Iv A_c.height)]), (.agg #[(Fl r26), (Fl r28), (Fl r30), (Fl r32), (Fl r34), (Fl r36), (Fl r38), (Iv A_c.width), (Iv A_c.height)]), (Iv sz), (.tuple #[(.slice p47 ((gvA [] (tilesOk A_c sz) (tilesC A_c sz)).length) q48), (Bo (tilesOk A_c sz))]), (.slice p47 ((gvA [] (tilesOk A_c sz) (tilesC A_c sz)).length) q48), (Bo (tilesOk A_c sz)), Ud, (.agg #[(Fl r1), (Fl r3), (Fl r5), (Fl r7), (Fl r9), (Fl r11), (Fl r13), (Iv A_c.width), (Iv A_c.height)]), (.agg #[(Fl r52), (Fl r54), (Fl r56), (Fl r58), (Fl r60), (Fl r62), (Fl r64), (Iv A_c.width), (Iv A_c.height)]), Ud, Ud, Ud, Ud, Ud, Ud, Ud, Ud, Ud, Ud, Ud, Ud, Ud, Ud, Ud, Ud, Ud, Ud, Ud, Ud, Ud, Ud, Ud, Ud, Ud, Ud, Ud, Ud, Ud, Ud, Ud, Ud, Ud, Ud, Ud, Ud, Ud, Ud, Ud, Ud, Ud, Ud, Ud, Ud, Ud, Ud, Ud, Ud]) _
  refine q_is rfl rfl (does_move (u := (Iv sz)) (ev rfl)) (by dsimp only [List.set]; try rfl) ?_
  refine seqd rfl rfl (does_call (args := #[(.agg #[(Fl r52), (Fl r54), (Fl r56), (Fl r58), (Fl r60), (Fl r62), (Fl r64), (Iv A_c.width), (Iv A_c.height)]), (Iv sz)]) cal38 (evs rfl) (c_impl_TilesOf [(Fl r52), (Fl r54), (Fl r56), (Fl r58), (Fl r60), (Fl r62), (Fl r64), (Iv A_c.width), (Iv A_c.height)] A_c sz _ ⟨r52, r54, r56, r58, r60, r62, r64, rfl, h53, h55, h57, h59, h61, h63, h65⟩)) ?_; rintro _ w68 ⟨E67, ⟨y70, Lw71, rfl, hh69, hw72⟩⟩
  have X73 := Ext.gr X66 E67
  have n74 : b16 < w51.heap.size := Blk.lt (((hB18.ext E24).ext E41).ext E50)
  obtain ⟨p75, q76, rfl⟩ := Sl.shape hh69.get
  have hw77 : WL 4 w51.heap.size w68 Lw71 (.slice p75 ((gvA [] (tilesOk A_c sz) (tilesC A_c sz)).length) q76) (gvA [] (tilesOk A_c sz) (tilesC A_c sz)).length := hw72
  show wpList _ _ _ _ (fr [(.agg #[(Fl r1), (Fl r3), (Fl r5), (Fl r7), (Fl r9), (Fl r11), (Fl r13), (Iv A_c.width), (Iv A_c.height)]), (Iv sz), (Pt b16 0), Ud, (Bo false), (.slice p47 ((gvA [] (tilesOk A_c sz) (tilesC A_c sz)).length) q48), (Bo (tilesOk A_c sz)), Ud, Ud, Ud, Ud, Ud, Ud, (.tuple #[(.slice p47 ((gvA [] (tilesOk A_c sz) (tilesC A_c sz)).length) q48), (Bo (tilesOk A_c sz))]), (.agg #[(Fl r1), (Fl r3), (Fl r5), (Fl r7), (Fl r9), (Fl r11), (Fl r13), (Iv A_c.width), (Iv A_c.height)]), (.agg #[(Fl r26), (Fl r28), (Fl r30), (Fl r32), (Fl r34), (Fl r36), (Fl r38), (Iv A_c.width), (Iv A_c.height)]), (Iv sz), (.tuple #[(.slice p47 ((gvA [] (tilesOk A_c sz) (tilesC A_c sz)).length) q48), (Bo (tilesOk A_c sz))]), (.slice p47 ((gvA [] (tilesOk A_c sz) (tilesC A_c sz)).length) q48), (Bo (tilesOk A_c sz)), Ud, (.agg #[(Fl r1), (Fl r3), (Fl r5), (Fl r7), (Fl r9), (Fl r11), (Fl r13), (Iv A_c.width), (Iv A_c.height)]), (.agg #[(Fl r52), (Fl r54), (Fl r56), (Fl r58), (Fl r60), (Fl r62), (Fl r64), (Iv A_c.width), (Iv A_c.height)]), (Iv sz), (.tuple #[(.slice p75 ((gvA [] (tilesOk A_c sz) (tilesC A_c sz)).length) q76), (Bo (tilesOk A_c sz))]), Ud, Ud, Ud, Ud, Ud, Ud, Ud, Ud, Ud, Ud, Ud, Ud, Ud, Ud, Ud, Ud, Ud, Ud, Ud, Ud, Ud, Ud, Ud, Ud, Ud, Ud, Ud, Ud, Ud, Ud, Ud, Ud, Ud, Ud, Ud, Ud, Ud, Ud, Ud, Ud, Ud, Ud, Ud, Ud, Ud, Ud]) _
  refine q_is rfl rfl (does_move (u := (.tuple #[(.slice p75 ((gvA [] (tilesOk A_c sz) (tilesC A_c sz)).length) q76), (Bo (tilesOk A_c sz))])) (ev rfl)) (by dsimp only [List.set]; try rfl) ?_
  refine q_is rfl rfl (does_extract (vs := #[(.slice p75 ((gvA [] (tilesOk A_c sz) (tilesC A_c sz)).length) q76), (Bo (tilesOk A_c sz))]) (u := (.slice p75 ((gvA [] (tilesOk A_c sz) (tilesC A_c sz)).length) q76)) (ev rfl) rfl) (by dsimp only [List.set]; try rfl) ?_
  refine q_is rfl rfl (does_extract (vs := #[(.slice p75 ((gvA [] (tilesOk A_c sz) (tilesC A_c sz)).length) q76), (Bo (tilesOk A_c sz))]) (u := (Bo (tilesOk A_c sz))) (ev rfl) rfl) (by dsimp only [List.set]; try rfl) ?_
  refine q_is rfl rfl (does_assign (u := (.slice p75 ((gvA [] (tilesOk A_c sz) (tilesC A_c sz)).length) q76)) (ev rfl)) (by dsimp only [List.set]; try rfl) ?_
  refine q_is rfl rfl (does_assign (u := (Bo (tilesOk A_c sz))) (ev rfl)) (by dsimp only [List.set]; try rfl) ?_
  refine wpList_nil (hK49 _ _ ?_)
  refine wp_seq_k fun K78 hK78 => ?_
  refine wp_seq_k fun K79 hK79 => ?_
  obtain ⟨β1, hβ1⟩ : ∃ b : Bool, b = (sameX eqTil (gvA [] (tilesOk A_c sz) (tilesC A_c sz)) (gvA [] (tilesOk A_c sz) (tilesC A_c sz))) := ⟨_, rfl⟩
  obtain ⟨β2, hβ2⟩ : ∃ b : Bool, b = ((tilesOk A_c sz) != (tilesOk A_c sz)) := ⟨_, rfl⟩
  refine region_text (
    [Fact.pure [] (fun v => v = (.slice p75 ((gvA [] (tilesOk A_c sz) (tilesC A_c sz)).length) q76)),
    Fact.pure [] (fun v => v = (.slice p47 ((gvA [] (tilesOk A_c sz) (tilesC A_c sz)).length) q48)),
    Fact.pure [27, 28] (fun v => v = (Bo β1)),
    Fact.pure [29] (fun v => v = (Bo (!β1))),
    Fact.pure [30] (fun v => v = (Bo (!β1))),
    Fact.pure [31] (fun v => (!β1) = false → v = (Bo (tilesOk A_c sz))),
    Fact.pure [31] (fun v => (!β1) = false → v = (Bo (tilesOk A_c sz))),
    Fact.pure [32, 33, 31] (fun v => (!β1) = false → v = (Bo β2)),
    Fact.pure [31, 34] (fun v => v = (Bo ((!β1) || β2)))]) (by simp [Fact.pure, Fact.mem]) ?_
  refine RW_d _ rfl (fun v => by dsimp only [List.set]; try rfl) (fun u hu hF => ?_) (fun v80 => ?_)
  · clear hF
    refine doesG_un rfl ?_
    refine (does_move (u := (.slice p75 ((gvA [] (tilesOk A_c sz) (tilesC A_c sz)).length) q76)) (ev rfl)).mono ?_; rintro _ _ ⟨rfl, rfl⟩
    exact ⟨rfl, Ext.refl _⟩
  refine RW_d _ rfl (fun v => by dsimp only [List.set]; try rfl) (fun u hu hF => ?_) (fun v81 => ?_)
  · clear hF
    refine doesG_un rfl ?_
    refine (does_move (u := (.slice p47 ((gvA [] (tilesOk A_c sz) (tilesC A_c sz)).length) q48)) (ev rfl)).mono ?_; rintro _ _ ⟨rfl, rfl⟩
    exact ⟨rfl, Ext.refl _⟩
  refine RW_d _ rfl (fun v => by dsimp only [List.set]; try rfl) (fun u hu hF => ?_) (fun v82 => ?_)
  · have h27_ : v80 = (.slice p75 ((gvA [] (tilesOk A_c sz) (tilesC A_c sz)).length) q76) := hF.1
    have h28_ : v81 = (.slice p47 ((gvA [] (tilesOk A_c sz) (tilesC A_c sz)).length) q48) := hF.2.1
    clear hF
    refine doesG_un rfl ?_
    obtain rfl := h27_
    obtain rfl := h28_
    refine (does_call (args := #[(.slice p75 ((gvA [] (tilesOk A_c sz) (tilesC A_c sz)).length) q76), (.slice p47 ((gvA [] (tilesOk A_c sz) (tilesC A_c sz)).length) q48)]) cal39 (evs rfl) (c_laws_eqTileS (.slice p75 ((gvA [] (tilesOk A_c sz) (tilesC A_c sz)).length) q76) (gvA [] (tilesOk A_c sz) (tilesC A_c sz)) (.slice p47 ((gvA [] (tilesOk A_c sz) (tilesC A_c sz)).length) q48) (gvA [] (tilesOk A_c sz) (tilesC A_c sz)) _ (Sl.ext hh69.get RTileT.mono hu) (Sl.ext (hh43 _ (((Same.refl _ _).ext E50).ext E67)) RTileT.mono hu))).mono ?_; rintro v u' ⟨hx, hv⟩
    exact ⟨hv.trans (by simp only [hβ1]), hx⟩
  refine RW_d _ rfl (fun v => by dsimp only [List.set]; try rfl) (fun u hu hF => ?_) (fun v83 => ?_)
  · have h29_ : v82 = (Bo β1) := hF.1
    clear hF
    refine doesG_un rfl ?_
    obtain rfl := h29_
    refine (does_not (ev rfl)).mono ?_; rintro _ _ ⟨rfl, rfl⟩
    exact ⟨rfl, Ext.refl _⟩
  refine RW_d _ rfl (fun v => by dsimp only [List.set]; try rfl) (fun u hu hF => ?_) (fun v84 => ?_)
  · have h30_ : v83 = (Bo (!β1)) := hF.1
    clear hF
    refine doesG_un rfl ?_
    obtain rfl := h30_
    refine (does_move (u := (Bo (!β1))) (ev rfl)).mono ?_; rintro _ _ ⟨rfl, rfl⟩
    exact ⟨rfl, Ext.refl _⟩
  refine RW_d _ rfl (fun v => by dsimp only [List.set]; try rfl) (fun u hu hF => ?_) (fun v85 => ?_)
  · have h31_ : v84 = (Bo (!β1)) := hF.1
    clear hF
    obtain rfl := h31_
    refine doesG_g (b := (!β1)) rfl (yld rfl rfl) (fun hg1 => ?_) (fun hc => ⟨fun hg1 => absurd hg1 hc, Ext.refl _⟩)
    refine (does_move (u := (Bo (tilesOk A_c sz))) (ev rfl)).mono ?_; rintro _ _ ⟨rfl, rfl⟩
    exact ⟨fun _ => rfl, Ext.refl _⟩
  refine RW_d _ rfl (fun v => by dsimp only [List.set]; try rfl) (fun u hu hF => ?_) (fun v86 => ?_)
  · have h31_ : v84 = (Bo (!β1)) := hF.1
    clear hF
    obtain rfl := h31_
    refine doesG_g (b := (!β1)) rfl (yld rfl rfl) (fun hg1 => ?_) (fun hc => ⟨fun hg1 => absurd hg1 hc, Ext.refl _⟩)
    refine (does_move (u := (Bo (tilesOk A_c sz))) (ev rfl)).mono ?_; rintro _ _ ⟨rfl, rfl⟩
    exact ⟨fun _ => rfl, Ext.refl _⟩
  refine RW_d _ rfl (fun v => by dsimp only [List.set]; try rfl) (fun u hu hF => ?_) (fun v87 => ?_)
  · have h32_ : (!β1) = false → v85 = (Bo (tilesOk A_c sz)) := hF.1
    have h33_ : (!β1) = false → v86 = (Bo (tilesOk A_c sz)) := hF.2.1
    have h31_ : v84 = (Bo (!β1)) := hF.2.2.1
    clear hF
    obtain rfl := h31_
    refine doesG_g (b := (!β1)) rfl (yld rfl rfl) (fun hg1 => ?_) (fun hc => ⟨fun hg1 => absurd hg1 hc, Ext.refl _⟩)
    obtain rfl := h32_ hg1
    obtain rfl := h33_ hg1
    refine (does_bne (p := (tilesOk A_c sz)) (q := (tilesOk A_c sz)) Try.underlying4 (ev rfl) (ev rfl)).mono ?_; rintro _ _ ⟨rfl, rfl⟩
    exact ⟨fun _ => (by first | rfl | (show _ = _; simp only [hβ2])), Ext.refl _⟩
  refine RW_d _ rfl (fun v => by dsimp only [List.set]; try rfl) (fun u hu hF => ?_) (fun v88 => ?_)
  · have h31_ : v84 = (Bo (!β1)) := hF.1
    have h34_ : (!β1) = false → v87 = (Bo β2) := hF.2.1
    clear hF
    refine doesG_un rfl ?_
    skip
    obtain rfl := h31_
    refine (does_pick (b := (!β1)) (ev rfl) (ev rfl) (ev rfl)).mono ?_; rintro _ _ ⟨rfl, rfl⟩; refine ⟨?_, Ext.refl _⟩; skip
    cases hbb : (!β1) <;> simp [hbb] at h34_ ⊢
    all_goals (first | rfl | (subst h34_; rfl) | simp_all)
  refine RW_fin ?_; intro w89 E90 hP91
  obtain ⟨⟨⟨⟨⟨⟨⟨⟨⟨-, -⟩, -⟩, -⟩, -⟩, -⟩, -⟩, -⟩, -⟩, q92⟩ := hP91
  have X93 := Ext.gr X73 E90
  have q92 : v88 = (Bo ((!β1) || β2)) := q92
  obtain rfl := q92
  show wpList _ _ _ _ (fr [(.agg #[(Fl r1), (Fl r3), (Fl r5), (Fl r7), (Fl r9), (Fl r11), (Fl r13), (Iv A_c.width), (Iv A_c.height)]), (Iv sz), (Pt b16 0), Ud, (Bo false), (.slice p47 ((gvA [] (tilesOk A_c sz) (tilesC A_c sz)).length) q48), (Bo (tilesOk A_c sz)), (.slice p75 ((gvA [] (tilesOk A_c sz) (tilesC A_c sz)).length) q76), (Bo (tilesOk A_c sz)), Ud, Ud, Ud, Ud, (.tuple #[(.slice p47 ((gvA [] (tilesOk A_c sz) (tilesC A_c sz)).length) q48), (Bo (tilesOk A_c sz))]), (.agg #[(Fl r1), (Fl r3), (Fl r5), (Fl r7), (Fl r9), (Fl r11), (Fl r13), (Iv A_c.width), (Iv A_c.height)]), (.agg #[(Fl r26), (Fl r28), (Fl r30), (Fl r32), (Fl r34), (Fl r36), (Fl r38), (Iv A_c.width), (Iv A_c.height)]), (Iv sz), (.tuple #[(.slice p47 ((gvA [] (tilesOk A_c sz) (tilesC A_c sz)).length) q48), (Bo (tilesOk A_c sz))]), (.slice p47 ((gvA [] (tilesOk A_c sz) (tilesC A_c sz)).length) q48), (Bo (tilesOk A_c sz)), (.tuple #[(.slice p75 ((gvA [] (tilesOk A_c sz) (tilesC A_c sz)).length) q76), (Bo (tilesOk A_c sz))]), (.agg #[(Fl r1), (Fl r3), (Fl r5), (Fl r7), (Fl r9), (Fl r11), (Fl r13), (Iv A_c.width), (Iv A_c.height)]), (.agg #[(Fl r52), (Fl r54), (Fl r56), (Fl r58), (Fl r60), (Fl r62), (Fl r64), (Iv A_c.width), (Iv A_c.height)]), (Iv sz), (.tuple #[(.slice p75 ((gvA [] (tilesOk A_c sz) (tilesC A_c sz)).length) q76), (Bo (tilesOk A_c sz))]), (.slice p75 ((gvA [] (tilesOk A_c sz) (tilesC A_c sz)).length) q76), (Bo (tilesOk A_c sz)), v80, v81, v82, v83, v84, v85, v86, v87, (Bo ((!β1) || β2)), Ud, Ud, Ud, Ud, Ud, Ud, Ud, Ud, Ud, Ud, Ud, Ud, Ud, Ud, Ud, Ud, Ud, Ud, Ud, Ud, Ud, Ud, Ud, Ud, Ud, Ud, Ud, Ud, Ud, Ud, Ud, Ud, Ud, Ud, Ud]) _
  refine wpList_nil (hK79 _ _ ?_)
  refine wp_cond_split (t := (!β1) || β2) (ev rfl) (fun c94 => ?_) (fun c94 => ?_)
  · have c94' := c94
    (try simp only [hβ1, hβ2, sameX_selfTil, bne_self_eq_false] at c94')
    (try simp only [hβ1, hβ2] at c94')
    (try simp only [icmp, Bool.and_eq_true, Bool.or_eq_true, Bool.and_eq_false_iff, Bool.or_eq_false_iff, Bool.not_eq_true', Bool.not_eq_false', decide_eq_true_eq, decide_eq_false_iff_not, beq_iff_eq, bne_iff_ne, beq_eq_false_iff_ne, bne_eq_false_iff_eq] at c94')
    refine wp_seq_k fun K95 hK95 => ?_
    refine wp_region_lit ?_
    refine q_is rfl rfl (does_assign (u := (Bo false)) (ev rfl)) (by dsimp only [List.set]; try rfl) ?_
    refine wpList_nil (hK95 _ _ ?_)
    refine wp_ret ?_
    dsimp only [Exit.then, Exit.inBlock]
    refine ret_val (v := (Bo false)) (res_T rfl (slot rfl)) X93 ?_
    try simp only [h2, h4, h6, h8, h10, h12, h14, h27, h29, h31, h33, h35, h37, h39, h53, h55, h57, h59, h61, h63, h65, hβ1, hβ2, sameX_selfTil, bne_self_eq_false] at c94
    have x96 : true = false := by first | with_reducible rfl | (exfalso; omega) | (exfalso; simp only [mkL_len] at * <;> omega) | (simp only [sameX_selfTil, bne_self_eq_false, h2, h4, h6, h8, h10, h12, h14, h27, h29, h31, h33, h35, h37, h39, h53, h55, h57, h59, h61, h63, h65, hβ1, hβ2, c94]; done) | (simp [sameX_selfTil, bne_self_eq_false, h2, h4, h6, h8, h10, h12, h14, h27, h29, h31, h33, h35, h37, h39, h53, h55, h57, h59, h61, h63, h65, hβ1, hβ2, c94]; done) | (simp_all; done) | (exfalso; simp_all; done)
    exact (by first | rfl | rw [x96])
  have c94' := c94
  (try simp only [hβ1, hβ2, sameX_selfTil, bne_self_eq_false] at c94')
  (try simp only [hβ1, hβ2] at c94')
  (try simp only [icmp, Bool.and_eq_true, Bool.or_eq_true, Bool.and_eq_false_iff, Bool.or_eq_false_iff, Bool.not_eq_true', Bool.not_eq_false', decide_eq_true_eq, decide_eq_false_iff_not, beq_iff_eq, bne_iff_ne, beq_eq_false_iff_ne, bne_eq_false_iff_eq] at c94')
  refine wp_skip (hK78 _ _ ?_)
  refine wp_seq_k fun K97 hK97 => ?_
  refine wp_region_lit ?_
  refine q_is rfl rfl (does_assign (u := (Iv 1)) (ev rfl)) (by dsimp only [List.set]; try rfl) ?_
  refine wpList_nil (hK97 _ _ ?_)
  refine wp_seq_k fun K98 hK98 => ?_
  refine wp_region_lit ?_
  refine q_is rfl rfl (does_move (u := (.slice p75 ((gvA [] (tilesOk A_c sz) (tilesC A_c sz)).length) q76)) (ev rfl)) (by dsimp only [List.set]; try rfl) ?_
  refine q_is rfl rfl (does_move (u := (Iv 1)) (ev rfl)) (by dsimp only [List.set]; try rfl) ?_
  refine seqd rfl rfl (does_callK (args := #[(.slice p75 ((gvA [] (tilesOk A_c sz) (tilesC A_c sz)).length) q76), (Iv 1)]) cal40 (evs rfl) (c_laws_markTileS (.slice p75 ((gvA [] (tilesOk A_c sz) (tilesC A_c sz)).length) q76) (gvA [] (tilesOk A_c sz) (tilesC A_c sz)).length Lw71 w51.heap.size 1 _ (hw77.same ((Same.refl _ _).ext E90)) (by omega) (by first | omega | omega))) ?_; rintro _ w99 ⟨K100, rfl, hM101⟩
  have X102 := Below.kl X93 K100 (fun c hc => Nat.le_trans (Below.size (Ext.gr (Ext.gr (Ext.gr (Ext.gr (Ext.refl _) E19) E24) E41) E50)) (hw77.1 c hc).1) (Nat.le_refl _)
  show wpList _ _ _ _ (fr [(.agg #[(Fl r1), (Fl r3), (Fl r5), (Fl r7), (Fl r9), (Fl r11), (Fl r13), (Iv A_c.width), (Iv A_c.height)]), (Iv sz), (Pt b16 0), Ud, (Bo false), (.slice p47 ((gvA [] (tilesOk A_c sz) (tilesC A_c sz)).length) q48), (Bo (tilesOk A_c sz)), (.slice p75 ((gvA [] (tilesOk A_c sz) (tilesC A_c sz)).length) q76), (Bo (tilesOk A_c sz)), (Iv 1), Ud, Ud, Ud, (.tuple #[(.slice p47 ((gvA [] (tilesOk A_c sz) (tilesC A_c sz)).length) q48), (Bo (tilesOk A_c sz))]), (.agg #[(Fl r1), (Fl r3), (Fl r5), (Fl r7), (Fl r9), (Fl r11), (Fl r13), (Iv A_c.width), (Iv A_c.height)]), (.agg #[(Fl r26), (Fl r28), (Fl r30), (Fl r32), (Fl r34), (Fl r36), (Fl r38), (Iv A_c.width), (Iv A_c.height)]), (Iv sz), (.tuple #[(.slice p47 ((gvA [] (tilesOk A_c sz) (tilesC A_c sz)).length) q48), (Bo (tilesOk A_c sz))]), (.slice p47 ((gvA [] (tilesOk A_c sz) (tilesC A_c sz)).length) q48), (Bo (tilesOk A_c sz)), (.tuple #[(.slice p75 ((gvA [] (tilesOk A_c sz) (tilesC A_c sz)).length) q76), (Bo (tilesOk A_c sz))]), (.agg #[(Fl r1), (Fl r3), (Fl r5), (Fl r7), (Fl r9), (Fl r11), (Fl r13), (Iv A_c.width), (Iv A_c.height)]), (.agg #[(Fl r52), (Fl r54), (Fl r56), (Fl r58), (Fl r60), (Fl r62), (Fl r64), (Iv A_c.width), (Iv A_c.height)]), (Iv sz), (.tuple #[(.slice p75 ((gvA [] (tilesOk A_c sz) (tilesC A_c sz)).length) q76), (Bo (tilesOk A_c sz))]), (.slice p75 ((gvA [] (tilesOk A_c sz) (tilesC A_c sz)).length) q76), (Bo (tilesOk A_c sz)), v80, v81, v82, v83, v84, v85, v86, v87, (Bo ((!β1) || β2)), (.slice p75 ((gvA [] (tilesOk A_c sz) (tilesC A_c sz)).length) q76), (Iv 1), (Iv (1 + ((gvA [] (tilesOk A_c sz) (tilesC A_c sz)).length : Int) * 4)), Ud, Ud, Ud, Ud, Ud, Ud, Ud, Ud, Ud, Ud, Ud, Ud, Ud, Ud, Ud, Ud, Ud, Ud, Ud, Ud, Ud, Ud, Ud, Ud, Ud, Ud, Ud, Ud, Ud, Ud, Ud, Ud]) _
  refine q_is rfl rfl (does_assign (u := (Iv (1 + ((gvA [] (tilesOk A_c sz) (tilesC A_c sz)).length : Int) * 4))) (ev rfl)) (by dsimp only [List.set]; try rfl) ?_
  refine wpList_nil (hK98 _ _ ?_)
  refine wp_seq_k fun K105 hK105 => ?_
  refine wp_region_lit ?_
  refine q_is rfl rfl (does_assign (u := (Iv 1)) (ev rfl)) (by dsimp only [List.set]; try rfl) ?_
  refine wpList_nil (hK105 _ _ ?_)
  refine wp_seq_k fun K106 hK106 => ?_
  refine wp_region_lit ?_
  refine q_is rfl rfl (does_move (u := (.slice p75 ((gvA [] (tilesOk A_c sz) (tilesC A_c sz)).length) q76)) (ev rfl)) (by dsimp only [List.set]; try rfl) ?_
  refine q_is rfl rfl (does_move (u := (Iv 1)) (ev rfl)) (by dsimp only [List.set]; try rfl) ?_
  refine seqd rfl rfl (does_call (args := #[(.slice p75 ((gvA [] (tilesOk A_c sz) (tilesC A_c sz)).length) q76), (Iv 1)]) cal41 (evs rfl) (c_laws_heldTileS (.slice p75 ((gvA [] (tilesOk A_c sz) (tilesC A_c sz)).length) q76) (mkL fT 4 1 (gvA [] (tilesOk A_c sz) (tilesC A_c sz)).length) 1 _ hM101.get (by exact mkL_eq) (by omega) (by rw [mkL_len]; omega))) ?_; rintro _ w108 ⟨E107, rfl⟩
  have X109 := Ext.gr X102 E107
  show wpList _ _ _ _ (fr [(.agg #[(Fl r1), (Fl r3), (Fl r5), (Fl r7), (Fl r9), (Fl r11), (Fl r13), (Iv A_c.width), (Iv A_c.height)]), (Iv sz), (Pt b16 0), Ud, (Bo false), (.slice p47 ((gvA [] (tilesOk A_c sz) (tilesC A_c sz)).length) q48), (Bo (tilesOk A_c sz)), (.slice p75 ((gvA [] (tilesOk A_c sz) (tilesC A_c sz)).length) q76), (Bo (tilesOk A_c sz)), (Iv (1 + ((gvA [] (tilesOk A_c sz) (tilesC A_c sz)).length : Int) * 4)), (Iv 1), Ud, Ud, (.tuple #[(.slice p47 ((gvA [] (tilesOk A_c sz) (tilesC A_c sz)).length) q48), (Bo (tilesOk A_c sz))]), (.agg #[(Fl r1), (Fl r3), (Fl r5), (Fl r7), (Fl r9), (Fl r11), (Fl r13), (Iv A_c.width), (Iv A_c.height)]), (.agg #[(Fl r26), (Fl r28), (Fl r30), (Fl r32), (Fl r34), (Fl r36), (Fl r38), (Iv A_c.width), (Iv A_c.height)]), (Iv sz), (.tuple #[(.slice p47 ((gvA [] (tilesOk A_c sz) (tilesC A_c sz)).length) q48), (Bo (tilesOk A_c sz))]), (.slice p47 ((gvA [] (tilesOk A_c sz) (tilesC A_c sz)).length) q48), (Bo (tilesOk A_c sz)), (.tuple #[(.slice p75 ((gvA [] (tilesOk A_c sz) (tilesC A_c sz)).length) q76), (Bo (tilesOk A_c sz))]), (.agg #[(Fl r1), (Fl r3), (Fl r5), (Fl r7), (Fl r9), (Fl r11), (Fl r13), (Iv A_c.width), (Iv A_c.height)]), (.agg #[(Fl r52), (Fl r54), (Fl r56), (Fl r58), (Fl r60), (Fl r62), (Fl r64), (Iv A_c.width), (Iv A_c.height)]), (Iv sz), (.tuple #[(.slice p75 ((gvA [] (tilesOk A_c sz) (tilesC A_c sz)).length) q76), (Bo (tilesOk A_c sz))]), (.slice p75 ((gvA [] (tilesOk A_c sz) (tilesC A_c sz)).length) q76), (Bo (tilesOk A_c sz)), v80, v81, v82, v83, v84, v85, v86, v87, (Bo ((!β1) || β2)), (.slice p75 ((gvA [] (tilesOk A_c sz) (tilesC A_c sz)).length) q76), (Iv 1), (Iv (1 + ((gvA [] (tilesOk A_c sz) (tilesC A_c sz)).length : Int) * 4)), (.slice p75 ((gvA [] (tilesOk A_c sz) (tilesC A_c sz)).length) q76), (Iv 1), (Iv (1 + ((mkL fT 4 1 (gvA [] (tilesOk A_c sz) (tilesC A_c sz)).length).length : Int) * 4)), Ud, Ud, Ud, Ud, Ud, Ud, Ud, Ud, Ud, Ud, Ud, Ud, Ud, Ud, Ud, Ud, Ud, Ud, Ud, Ud, Ud, Ud, Ud, Ud, Ud, Ud, Ud, Ud, Ud]) _
  refine q_is rfl rfl (does_assign (u := (Iv (1 + ((mkL fT 4 1 (gvA [] (tilesOk A_c sz) (tilesC A_c sz)).length).length : Int) * 4))) (ev rfl)) (by dsimp only [List.set]; try rfl) ?_
  refine wpList_nil (hK106 _ _ ?_)
  refine wp_seq_k fun K110 hK110 => ?_
  refine wp_seq_k fun K111 hK111 => ?_
  refine wp_region_lit ?_
  refine q_is rfl rfl (does_move (u := (Iv (1 + ((mkL fT 4 1 (gvA [] (tilesOk A_c sz) (tilesC A_c sz)).length).length : Int) * 4))) (ev rfl)) (by dsimp only [List.set]; try rfl) ?_
  refine q_is rfl rfl (does_icmp (p := 1 + ((mkL fT 4 1 (gvA [] (tilesOk A_c sz) (tilesC A_c sz)).length).length : Int) * 4) (q := 0) (.inr (.inr (.inl rfl))) (ev rfl) (ev rfl)) (by dsimp only [List.set]; try rfl) ?_
  refine wpList_nil (hK111 _ _ ?_)
  refine wp_cond_split (t := icmp .lss (1 + ((mkL fT 4 1 (gvA [] (tilesOk A_c sz) (tilesC A_c sz)).length).length : Int) * 4) 0) (ev rfl) (fun c112 => ?_) (fun c112 => ?_)
  · have c112' := c112
    (try simp only [hβ1, hβ2, sameX_selfTil, bne_self_eq_false] at c112')
    (try simp only [hβ1, hβ2] at c112')
    (try simp only [icmp, Bool.and_eq_true, Bool.or_eq_true, Bool.and_eq_false_iff, Bool.or_eq_false_iff, Bool.not_eq_true', Bool.not_eq_false', decide_eq_true_eq, decide_eq_false_iff_not, beq_iff_eq, bne_iff_ne, beq_eq_false_iff_ne, bne_eq_false_iff_eq] at c112')
    refine wp_seq_k fun K113 hK113 => ?_
    refine wp_region_lit ?_
    refine q_is rfl rfl (does_assign (u := (Bo false)) (ev rfl)) (by dsimp only [List.set]; try rfl) ?_
    refine wpList_nil (hK113 _ _ ?_)
    refine wp_ret ?_
    dsimp only [Exit.then, Exit.inBlock]
    refine ret_val (v := (Bo false)) (res_T rfl (slot rfl)) X109 ?_
    try simp only [h2, h4, h6, h8, h10, h12, h14, h27, h29, h31, h33, h35, h37, h39, h53, h55, h57, h59, h61, h63, h65, hβ1, hβ2, sameX_selfTil, bne_self_eq_false] at c94 c112
    have x114 : true = false := by first | with_reducible rfl | (exfalso; omega) | (exfalso; simp only [mkL_len] at * <;> omega) | (simp only [sameX_selfTil, bne_self_eq_false, h2, h4, h6, h8, h10, h12, h14, h27, h29, h31, h33, h35, h37, h39, h53, h55, h57, h59, h61, h63, h65, hβ1, hβ2, c94, c112]; done) | (simp [sameX_selfTil, bne_self_eq_false, h2, h4, h6, h8, h10, h12, h14, h27, h29, h31, h33, h35, h37, h39, h53, h55, h57, h59, h61, h63, h65, hβ1, hβ2, c94, c112]; done) | (simp_all; done) | (exfalso; simp_all; done)
    exact (by first | rfl | rw [x114])
  have c112' := c112
  (try simp only [hβ1, hβ2, sameX_selfTil, bne_self_eq_false] at c112')
  (try simp only [hβ1, hβ2] at c112')
  (try simp only [icmp, Bool.and_eq_true, Bool.or_eq_true, Bool.and_eq_false_iff, Bool.or_eq_false_iff, Bool.not_eq_true', Bool.not_eq_false', decide_eq_true_eq, decide_eq_false_iff_not, beq_iff_eq, bne_iff_ne, beq_eq_false_iff_ne, bne_eq_false_iff_eq] at c112')
  refine wp_skip (hK110 _ _ ?_)
  refine wp_seq_k fun K115 hK115 => ?_
  refine wp_seq_k fun K116 hK116 => ?_
  refine wp_region_lit ?_
  refine q_is rfl rfl (does_move (u := (Iv (1 + ((mkL fT 4 1 (gvA [] (tilesOk A_c sz) (tilesC A_c sz)).length).length : Int) * 4))) (ev rfl)) (by dsimp only [List.set]; try rfl) ?_
  refine q_is rfl rfl (does_move (u := (Iv (1 + ((gvA [] (tilesOk A_c sz) (tilesC A_c sz)).length : Int) * 4))) (ev rfl)) (by dsimp only [List.set]; try rfl) ?_
  refine q_is rfl rfl (does_icmp (p := 1 + ((mkL fT 4 1 (gvA [] (tilesOk A_c sz) (tilesC A_c sz)).length).length : Int) * 4) (q := 1 + ((gvA [] (tilesOk A_c sz) (tilesC A_c sz)).length : Int) * 4) (.inr (.inl rfl)) (ev rfl) (ev rfl)) (by dsimp only [List.set]; try rfl) ?_
  refine wpList_nil (hK116 _ _ ?_)
  refine wp_cond_split (t := icmp .neq (1 + ((mkL fT 4 1 (gvA [] (tilesOk A_c sz) (tilesC A_c sz)).length).length : Int) * 4) (1 + ((gvA [] (tilesOk A_c sz) (tilesC A_c sz)).length : Int) * 4)) (ev rfl) (fun c117 => ?_) (fun c117 => ?_)
  · have c117' := c117
    (try simp only [hβ1, hβ2, sameX_selfTil, bne_self_eq_false] at c117')
    (try simp only [hβ1, hβ2] at c117')
    (try simp only [icmp, Bool.and_eq_true, Bool.or_eq_true, Bool.and_eq_false_iff, Bool.or_eq_false_iff, Bool.not_eq_true', Bool.not_eq_false', decide_eq_true_eq, decide_eq_false_iff_not, beq_iff_eq, bne_iff_ne, beq_eq_false_iff_ne, bne_eq_false_iff_eq] at c117')
    refine wp_seq_k fun K118 hK118 => ?_
    refine wp_region_lit ?_
    refine q_is rfl rfl (does_assign (u := (Bo false)) (ev rfl)) (by dsimp only [List.set]; try rfl) ?_
    refine wpList_nil (hK118 _ _ ?_)
    refine wp_ret ?_
    dsimp only [Exit.then, Exit.inBlock]
    refine ret_val (v := (Bo false)) (res_T rfl (slot rfl)) X109 ?_
    try simp only [h2, h4, h6, h8, h10, h12, h14, h27, h29, h31, h33, h35, h37, h39, h53, h55, h57, h59, h61, h63, h65, hβ1, hβ2, sameX_selfTil, bne_self_eq_false] at c94 c112 c117
    have x119 : true = false := by first | with_reducible rfl | (exfalso; omega) | (exfalso; simp only [mkL_len] at * <;> omega) | (simp only [sameX_selfTil, bne_self_eq_false, h2, h4, h6, h8, h10, h12, h14, h27, h29, h31, h33, h35, h37, h39, h53, h55, h57, h59, h61, h63, h65, hβ1, hβ2, c94, c112, c117]; done) | (simp [sameX_selfTil, bne_self_eq_false, h2, h4, h6, h8, h10, h12, h14, h27, h29, h31, h33, h35, h37, h39, h53, h55, h57, h59, h61, h63, h65, hβ1, hβ2, c94, c112, c117]; done) | (simp_all; done) | (exfalso; simp_all; done)
    exact (by first | rfl | rw [x119])
  have c117' := c117
  (try simp only [hβ1, hβ2, sameX_selfTil, bne_self_eq_false] at c117')
  (try simp only [hβ1, hβ2] at c117')
  (try simp only [icmp, Bool.and_eq_true, Bool.or_eq_true, Bool.and_eq_false_iff, Bool.or_eq_false_iff, Bool.not_eq_true', Bool.not_eq_false', decide_eq_true_eq, decide_eq_false_iff_not, beq_iff_eq, bne_iff_ne, beq_eq_false_iff_ne, bne_eq_false_iff_eq] at c117')
  refine wp_skip (hK115 _ _ ?_)
  refine wp_seq_k fun K120 hK120 => ?_
  refine wp_region_lit ?_
  refine q_is rfl rfl (does_loadAgg (cs := [(Fl r1), (Fl r3), (Fl r5), (Fl r7), (Fl r9), (Fl r11), (Fl r13), (Iv A_c.width), (Iv A_c.height)]) (ev rfl) Try.isAgg45 Try.sizeOf45 (Blk.cells (((((((hB18.ext E24).ext E41).ext E50).ext E67).ext E90).kl K100 (fun hc => absurd (hw77.1 _ hc).1 (Nat.not_le_of_lt n74))).ext E107)) rfl) (by dsimp only [List.set]; try rfl) ?_
  refine seqd rfl rfl (does_call (args := #[(.agg #[(Fl r1), (Fl r3), (Fl r5), (Fl r7), (Fl r9), (Fl r11), (Fl r13), (Iv A_c.width), (Iv A_c.height)])]) cal24 (evs rfl) (c_laws_toCamera [(Fl r1), (Fl r3), (Fl r5), (Fl r7), (Fl r9), (Fl r11), (Fl r13), (Iv A_c.width), (Iv A_c.height)] A_c _ ⟨r1, r3, r5, r7, r9, r11, r13, rfl, h2, h4, h6, h8, h10, h12, h14⟩)) ?_; rintro _ w122 ⟨E121, ⟨_, rfl, ⟨r123, r125, r127, r129, r131, r133, r135, rfl, h124, h126, h128, h130, h132, h134, h136⟩⟩⟩
  have X137 := Ext.gr X109 E121
  show wpList _ _ _ _ (fr [(.agg #[(Fl r1), (Fl r3), (Fl r5), (Fl r7), (Fl r9), (Fl r11), (Fl r13), (Iv A_c.width), (Iv A_c.height)]), (Iv sz), (Pt b16 0), Ud, (Bo false), (.slice p47 ((gvA [] (tilesOk A_c sz) (tilesC A_c sz)).length) q48), (Bo (tilesOk A_c sz)), (.slice p75 ((gvA [] (tilesOk A_c sz) (tilesC A_c sz)).length) q76), (Bo (tilesOk A_c sz)), (Iv (1 + ((gvA [] (tilesOk A_c sz) (tilesC A_c sz)).length : Int) * 4)), (Iv (1 + ((mkL fT 4 1 (gvA [] (tilesOk A_c sz) (tilesC A_c sz)).length).length : Int) * 4)), Ud, Ud, (.tuple #[(.slice p47 ((gvA [] (tilesOk A_c sz) (tilesC A_c sz)).length) q48), (Bo (tilesOk A_c sz))]), (.agg #[(Fl r1), (Fl r3), (Fl r5), (Fl r7), (Fl r9), (Fl r11), (Fl r13), (Iv A_c.width), (Iv A_c.height)]), (.agg #[(Fl r26), (Fl r28), (Fl r30), (Fl r32), (Fl r34), (Fl r36), (Fl r38), (Iv A_c.width), (Iv A_c.height)]), (Iv sz), (.tuple #[(.slice p47 ((gvA [] (tilesOk A_c sz) (tilesC A_c sz)).length) q48), (Bo (tilesOk A_c sz))]), (.slice p47 ((gvA [] (tilesOk A_c sz) (tilesC A_c sz)).length) q48), (Bo (tilesOk A_c sz)), (.tuple #[(.slice p75 ((gvA [] (tilesOk A_c sz) (tilesC A_c sz)).length) q76), (Bo (tilesOk A_c sz))]), (.agg #[(Fl r1), (Fl r3), (Fl r5), (Fl r7), (Fl r9), (Fl r11), (Fl r13), (Iv A_c.width), (Iv A_c.height)]), (.agg #[(Fl r52), (Fl r54), (Fl r56), (Fl r58), (Fl r60), (Fl r62), (Fl r64), (Iv A_c.width), (Iv A_c.height)]), (Iv sz), (.tuple #[(.slice p75 ((gvA [] (tilesOk A_c sz) (tilesC A_c sz)).length) q76), (Bo (tilesOk A_c sz))]), (.slice p75 ((gvA [] (tilesOk A_c sz) (tilesC A_c sz)).length) q76), (Bo (tilesOk A_c sz)), v80, v81, v82, v83, v84, v85, v86, v87, (Bo ((!β1) || β2)), (.slice p75 ((gvA [] (tilesOk A_c sz) (tilesC A_c sz)).length) q76), (Iv 1), (Iv (1 + ((gvA [] (tilesOk A_c sz) (tilesC A_c sz)).length : Int) * 4)), (.slice p75 ((gvA [] (tilesOk A_c sz) (tilesC A_c sz)).length) q76), (Iv 1), (Iv (1 + ((mkL fT 4 1 (gvA [] (tilesOk A_c sz) (tilesC A_c sz)).length).length : Int) * 4)), (Iv (1 + ((mkL fT 4 1 (gvA [] (tilesOk A_c sz) (tilesC A_c sz)).length).length : Int) * 4)), (Bo (icmp .lss (1 + ((mkL fT 4 1 (gvA [] (tilesOk A_c sz) (tilesC A_c sz)).length).length : Int) * 4) 0)), (Iv (1 + ((mkL fT 4 1 (gvA [] (tilesOk A_c sz) (tilesC A_c sz)).length).length : Int) * 4)), (Iv (1 + ((gvA [] (tilesOk A_c sz) (tilesC A_c sz)).length : Int) * 4)), (Bo (icmp .neq (1 + ((mkL fT 4 1 (gvA [] (tilesOk A_c sz) (tilesC A_c sz)).length).length : Int) * 4) (1 + ((gvA [] (tilesOk A_c sz) (tilesC A_c sz)).length : Int) * 4))), Ud, (.agg #[(Fl r1), (Fl r3), (Fl r5), (Fl r7), (Fl r9), (Fl r11), (Fl r13), (Iv A_c.width), (Iv A_c.height)]), (.agg #[(Fl r123), (Fl r125), (Fl r127), (Fl r129), (Fl r131), (Fl r133), (Fl r135), (Iv A_c.width), (Iv A_c.height)]), Ud, Ud, Ud, Ud, Ud, Ud, Ud, Ud, Ud, Ud, Ud, Ud, Ud, Ud, Ud, Ud, Ud, Ud, Ud, Ud, Ud]) _
  refine q_is rfl rfl (does_move (u := (Iv sz)) (ev rfl)) (by dsimp only [List.set]; try rfl) ?_
  refine seqd rfl rfl (does_call (args := #[(.agg #[(Fl r123), (Fl r125), (Fl r127), (Fl r129), (Fl r131), (Fl r133), (Fl r135), (Iv A_c.width), (Iv A_c.height)]), (Iv sz)]) cal38 (evs rfl) (c_impl_TilesOf [(Fl r123), (Fl r125), (Fl r127), (Fl r129), (Fl r131), (Fl r133), (Fl r135), (Iv A_c.width), (Iv A_c.height)] A_c sz _ ⟨r123, r125, r127, r129, r131, r133, r135, rfl, h124, h126, h128, h130, h132, h134, h136⟩)) ?_; rintro _ w139 ⟨E138, ⟨y141, Lw142, rfl, hh140, hw143⟩⟩
  have X144 := Ext.gr X137 E138
  have n145 : b16 < w122.heap.size := Blk.lt ((((((((hB18.ext E24).ext E41).ext E50).ext E67).ext E90).kl K100 (fun hc => absurd (hw77.1 _ hc).1 (Nat.not_le_of_lt n74))).ext E107).ext E121)
  obtain ⟨p146, q147, rfl⟩ := Sl.shape hh140.get
  have hw148 : WL 4 w122.heap.size w139 Lw142 (.slice p146 ((gvA [] (tilesOk A_c sz) (tilesC A_c sz)).length) q147) (gvA [] (tilesOk A_c sz) (tilesC A_c sz)).length := hw143
  show wpList _ _ _ _ (fr [(.agg #[(Fl r1), (Fl r3), (Fl r5), (Fl r7), (Fl r9), (Fl r11), (Fl r13), (Iv A_c.width), (Iv A_c.height)]), (Iv sz), (Pt b16 0), Ud, (Bo false), (.slice p47 ((gvA [] (tilesOk A_c sz) (tilesC A_c sz)).length) q48), (Bo (tilesOk A_c sz)), (.slice p75 ((gvA [] (tilesOk A_c sz) (tilesC A_c sz)).length) q76), (Bo (tilesOk A_c sz)), (Iv (1 + ((gvA [] (tilesOk A_c sz) (tilesC A_c sz)).length : Int) * 4)), (Iv (1 + ((mkL fT 4 1 (gvA [] (tilesOk A_c sz) (tilesC A_c sz)).length).length : Int) * 4)), Ud, Ud, (.tuple #[(.slice p47 ((gvA [] (tilesOk A_c sz) (tilesC A_c sz)).length) q48), (Bo (tilesOk A_c sz))]), (.agg #[(Fl r1), (Fl r3), (Fl r5), (Fl r7), (Fl r9), (Fl r11), (Fl r13), (Iv A_c.width), (Iv A_c.height)]), (.agg #[(Fl r26), (Fl r28), (Fl r30), (Fl r32), (Fl r34), (Fl r36), (Fl r38), (Iv A_c.width), (Iv A_c.height)]), (Iv sz), (.tuple #[(.slice p47 ((gvA [] (tilesOk A_c sz) (tilesC A_c sz)).length) q48), (Bo (tilesOk A_c sz))]), (.slice p47 ((gvA [] (tilesOk A_c sz) (tilesC A_c sz)).length) q48), (Bo (tilesOk A_c sz)), (.tuple #[(.slice p75 ((gvA [] (tilesOk A_c sz) (tilesC A_c sz)).length) q76), (Bo (tilesOk A_c sz))]), (.agg #[(Fl r1), (Fl r3), (Fl r5), (Fl r7), (Fl r9), (Fl r11), (Fl r13), (Iv A_c.width), (Iv A_c.height)]), (.agg #[(Fl r52), (Fl r54), (Fl r56), (Fl r58), (Fl r60), (Fl r62), (Fl r64), (Iv A_c.width), (Iv A_c.height)]), (Iv sz), (.tuple #[(.slice p75 ((gvA [] (tilesOk A_c sz) (tilesC A_c sz)).length) q76), (Bo (tilesOk A_c sz))]), (.slice p75 ((gvA [] (tilesOk A_c sz) (tilesC A_c sz)).length) q76), (Bo (tilesOk A_c sz)), v80, v81, v82, v83, v84, v85, v86, v87, (Bo ((!β1) || β2)), (.slice p75 ((gvA [] (tilesOk A_c sz) (tilesC A_c sz)).length) q76), (Iv 1), (Iv (1 + ((gvA [] (tilesOk A_c sz) (tilesC A_c sz)).length : Int) * 4)), (.slice p75 ((gvA [] (tilesOk A_c sz) (tilesC A_c sz)).length) q76), (Iv 1), (Iv (1 + ((mkL fT 4 1 (gvA [] (tilesOk A_c sz) (tilesC A_c sz)).length).length : Int) * 4)), (Iv (1 + ((mkL fT 4 1 (gvA [] (tilesOk A_c sz) (tilesC A_c sz)).length).length : Int) * 4)), (Bo (icmp .lss (1 + ((mkL fT 4 1 (gvA [] (tilesOk A_c sz) (tilesC A_c sz)).length).length : Int) * 4) 0)), (Iv (1 + ((mkL fT 4 1 (gvA [] (tilesOk A_c sz) (tilesC A_c sz)).length).length : Int) * 4)), (Iv (1 + ((gvA [] (tilesOk A_c sz) (tilesC A_c sz)).length : Int) * 4)), (Bo (icmp .neq (1 + ((mkL fT 4 1 (gvA [] (tilesOk A_c sz) (tilesC A_c sz)).length).length : Int) * 4) (1 + ((gvA [] (tilesOk A_c sz) (tilesC A_c sz)).length : Int) * 4))), Ud, (.agg #[(Fl r1), (Fl r3), (Fl r5), (Fl r7), (Fl r9), (Fl r11), (Fl r13), (Iv A_c.width), (Iv A_c.height)]), (.agg #[(Fl r123), (Fl r125), (Fl r127), (Fl r129), (Fl r131), (Fl r133), (Fl r135), (Iv A_c.width), (Iv A_c.height)]), (Iv sz), (.tuple #[(.slice p146 ((gvA [] (tilesOk A_c sz) (tilesC A_c sz)).length) q147), (Bo (tilesOk A_c sz))]), Ud, Ud, Ud, Ud, Ud, Ud, Ud, Ud, Ud, Ud, Ud, Ud, Ud, Ud, Ud, Ud, Ud, Ud, Ud]) _
  refine q_is rfl rfl (does_move (u := (.tuple #[(.slice p146 ((gvA [] (tilesOk A_c sz) (tilesC A_c sz)).length) q147), (Bo (tilesOk A_c sz))])) (ev rfl)) (by dsimp only [List.set]; try rfl) ?_
  refine q_is rfl rfl (does_extract (vs := #[(.slice p146 ((gvA [] (tilesOk A_c sz) (tilesC A_c sz)).length) q147), (Bo (tilesOk A_c sz))]) (u := (.slice p146 ((gvA [] (tilesOk A_c sz) (tilesC A_c sz)).length) q147)) (ev rfl) rfl) (by dsimp only [List.set]; try rfl) ?_
  refine q_is rfl rfl (does_extract (vs := #[(.slice p146 ((gvA [] (tilesOk A_c sz) (tilesC A_c sz)).length) q147), (Bo (tilesOk A_c sz))]) (u := (Bo (tilesOk A_c sz))) (ev rfl) rfl) (by dsimp only [List.set]; try rfl) ?_
  refine q_is rfl rfl (does_assign (u := (.slice p146 ((gvA [] (tilesOk A_c sz) (tilesC A_c sz)).length) q147)) (ev rfl)) (by dsimp only [List.set]; try rfl) ?_
  refine q_is rfl rfl (does_assign (u := (Bo (tilesOk A_c sz))) (ev rfl)) (by dsimp only [List.set]; try rfl) ?_
  refine wpList_nil (hK120 _ _ ?_)
  refine wp_seq_k fun K149 hK149 => ?_
  refine wp_seq_k fun K150 hK150 => ?_
  obtain ⟨β3, hβ3⟩ : ∃ b : Bool, b = (sameX eqTil (gvA [] (tilesOk A_c sz) (tilesC A_c sz)) (gvA [] (tilesOk A_c sz) (tilesC A_c sz))) := ⟨_, rfl⟩
  obtain ⟨β4, hβ4⟩ : ∃ b : Bool, b = ((tilesOk A_c sz) != (tilesOk A_c sz)) := ⟨_, rfl⟩
  refine region_text (
    [Fact.pure [] (fun v => v = (.slice p146 ((gvA [] (tilesOk A_c sz) (tilesC A_c sz)).length) q147)),
    Fact.pure [] (fun v => v = (.slice p47 ((gvA [] (tilesOk A_c sz) (tilesC A_c sz)).length) q48)),
    Fact.pure [54, 55] (fun v => v = (Bo β3)),
    Fact.pure [56] (fun v => v = (Bo (!β3))),
    Fact.pure [57] (fun v => v = (Bo (!β3))),
    Fact.pure [58] (fun v => (!β3) = false → v = (Bo (tilesOk A_c sz))),
    Fact.pure [58] (fun v => (!β3) = false → v = (Bo (tilesOk A_c sz))),
    Fact.pure [59, 60, 58] (fun v => (!β3) = false → v = (Bo β4)),
    Fact.pure [58, 61] (fun v => v = (Bo ((!β3) || β4)))]) (by simp [Fact.pure, Fact.mem]) ?_
  refine RW_d _ rfl (fun v => by dsimp only [List.set]; try rfl) (fun u hu hF => ?_) (fun v151 => ?_)
  · clear hF
    refine doesG_un rfl ?_
    refine (does_move (u := (.slice p146 ((gvA [] (tilesOk A_c sz) (tilesC A_c sz)).length) q147)) (ev rfl)).mono ?_; rintro _ _ ⟨rfl, rfl⟩
    exact ⟨rfl, Ext.refl _⟩
  refine RW_d _ rfl (fun v => by dsimp only [List.set]; try rfl) (fun u hu hF => ?_) (fun v152 => ?_)
  · clear hF
    refine doesG_un rfl ?_
    refine (does_move (u := (.slice p47 ((gvA [] (tilesOk A_c sz) (tilesC A_c sz)).length) q48)) (ev rfl)).mono ?_; rintro _ _ ⟨rfl, rfl⟩
    exact ⟨rfl, Ext.refl _⟩
  refine RW_d _ rfl (fun v => by dsimp only [List.set]; try rfl) (fun u hu hF => ?_) (fun v153 => ?_)
  · have h54_ : v151 = (.slice p146 ((gvA [] (tilesOk A_c sz) (tilesC A_c sz)).length) q147) := hF.1
    have h55_ : v152 = (.slice p47 ((gvA [] (tilesOk A_c sz) (tilesC A_c sz)).length) q48) := hF.2.1
    clear hF
    refine doesG_un rfl ?_
    obtain rfl := h54_
    obtain rfl := h55_
    refine (does_call (args := #[(.slice p146 ((gvA [] (tilesOk A_c sz) (tilesC A_c sz)).length) q147), (.slice p47 ((gvA [] (tilesOk A_c sz) (tilesC A_c sz)).length) q48)]) cal39 (evs rfl) (c_laws_eqTileS (.slice p146 ((gvA [] (tilesOk A_c sz) (tilesC A_c sz)).length) q147) (gvA [] (tilesOk A_c sz) (tilesC A_c sz)) (.slice p47 ((gvA [] (tilesOk A_c sz) (tilesC A_c sz)).length) q48) (gvA [] (tilesOk A_c sz) (tilesC A_c sz)) _ (Sl.ext hh140.get RTileT.mono hu) (Sl.ext (hh43 _ ((((((((Same.refl _ _).ext E50).ext E67).ext E90).kl K100 (fun c hc => .inr (Nat.le_trans (Below.size E50) (hw77.1 c hc).1))).ext E107).ext E121).ext E138)) RTileT.mono hu))).mono ?_; rintro v u' ⟨hx, hv⟩
    exact ⟨hv.trans (by simp only [hβ3]), hx⟩
  refine RW_d _ rfl (fun v => by dsimp only [List.set]; try rfl) (fun u hu hF => ?_) (fun v154 => ?_)
  · have h56_ : v153 = (Bo β3) := hF.1
    clear hF
    refine doesG_un rfl ?_
    obtain rfl := h56_
    refine (does_not (ev rfl)).mono ?_; rintro _ _ ⟨rfl, rfl⟩
    exact ⟨rfl, Ext.refl _⟩
  refine RW_d _ rfl (fun v => by dsimp only [List.set]; try rfl) (fun u hu hF => ?_) (fun v155 => ?_)
  · have h57_ : v154 = (Bo (!β3)) := hF.1
    clear hF
    refine doesG_un rfl ?_
    obtain rfl := h57_
    refine (does_move (u := (Bo (!β3))) (ev rfl)).mono ?_; rintro _ _ ⟨rfl, rfl⟩
    exact ⟨rfl, Ext.refl _⟩
  refine RW_d _ rfl (fun v => by dsimp only [List.set]; try rfl) (fun u hu hF => ?_) (fun v156 => ?_)
  · have h58_ : v155 = (Bo (!β3)) := hF.1
    clear hF
    obtain rfl := h58_
    refine doesG_g (b := (!β3)) rfl (yld rfl rfl) (fun hg1 => ?_) (fun hc => ⟨fun hg1 => absurd hg1 hc, Ext.refl _⟩)
    refine (does_move (u := (Bo (tilesOk A_c sz))) (ev rfl)).mono ?_; rintro _ _ ⟨rfl, rfl⟩
    exact ⟨fun _ => rfl, Ext.refl _⟩
  refine RW_d _ rfl (fun v => by dsimp only [List.set]; try rfl) (fun u hu hF => ?_) (fun v157 => ?_)
  · have h58_ : v155 = (Bo (!β3)) := hF.1
    clear hF
    obtain rfl := h58_
    refine doesG_g (b := (!β3)) rfl (yld rfl rfl) (fun hg1 => ?_) (fun hc => ⟨fun hg1 => absurd hg1 hc, Ext.refl _⟩)
    refine (does_move (u := (Bo (tilesOk A_c sz))) (ev rfl)).mono ?_; rintro _ _ ⟨rfl, rfl⟩
    exact ⟨fun _ => rfl, Ext.refl _⟩
  refine RW_d _ rfl (fun v => by dsimp only [List.set]; try rfl) (fun u hu hF => ?_) (fun v158 => ?_)
  · have h59_ : (!β3) = false → v156 = (Bo (tilesOk A_c sz)) := hF.1
    have h60_ : (!β3) = false → v157 = (Bo (tilesOk A_c sz)) := hF.2.1
    have h58_ : v155 = (Bo (!β3)) := hF.2.2.1
    clear hF
    obtain rfl := h58_
    refine doesG_g (b := (!β3)) rfl (yld rfl rfl) (fun hg1 => ?_) (fun hc => ⟨fun hg1 => absurd hg1 hc, Ext.refl _⟩)
    obtain rfl := h59_ hg1
    obtain rfl := h60_ hg1
    refine (does_bne (p := (tilesOk A_c sz)) (q := (tilesOk A_c sz)) Try.underlying4 (ev rfl) (ev rfl)).mono ?_; rintro _ _ ⟨rfl, rfl⟩
    exact ⟨fun _ => (by first | rfl | (show _ = _; simp only [hβ4])), Ext.refl _⟩
  refine RW_d _ rfl (fun v => by dsimp only [List.set]; try rfl) (fun u hu hF => ?_) (fun v159 => ?_)
  · have h58_ : v155 = (Bo (!β3)) := hF.1
    have h61_ : (!β3) = false → v158 = (Bo β4) := hF.2.1
    clear hF
    refine doesG_un rfl ?_
    skip
    obtain rfl := h58_
    refine (does_pick (b := (!β3)) (ev rfl) (ev rfl) (ev rfl)).mono ?_; rintro _ _ ⟨rfl, rfl⟩; refine ⟨?_, Ext.refl _⟩; skip
    cases hbb : (!β3) <;> simp [hbb] at h61_ ⊢
    all_goals (first | rfl | (subst h61_; rfl) | simp_all)
  refine RW_fin ?_; intro w160 E161 hP162
  obtain ⟨⟨⟨⟨⟨⟨⟨⟨⟨-, -⟩, -⟩, -⟩, -⟩, -⟩, -⟩, -⟩, -⟩, q163⟩ := hP162
  have X164 := Ext.gr X144 E161
  have q163 : v159 = (Bo ((!β3) || β4)) := q163
  obtain rfl := q163
  show wpList _ _ _ _ (fr [(.agg #[(Fl r1), (Fl r3), (Fl r5), (Fl r7), (Fl r9), (Fl r11), (Fl r13), (Iv A_c.width), (Iv A_c.height)]), (Iv sz), (Pt b16 0), Ud, (Bo false), (.slice p47 ((gvA [] (tilesOk A_c sz) (tilesC A_c sz)).length) q48), (Bo (tilesOk A_c sz)), (.slice p75 ((gvA [] (tilesOk A_c sz) (tilesC A_c sz)).length) q76), (Bo (tilesOk A_c sz)), (Iv (1 + ((gvA [] (tilesOk A_c sz) (tilesC A_c sz)).length : Int) * 4)), (Iv (1 + ((mkL fT 4 1 (gvA [] (tilesOk A_c sz) (tilesC A_c sz)).length).length : Int) * 4)), (.slice p146 ((gvA [] (tilesOk A_c sz) (tilesC A_c sz)).length) q147), (Bo (tilesOk A_c sz)), (.tuple #[(.slice p47 ((gvA [] (tilesOk A_c sz) (tilesC A_c sz)).length) q48), (Bo (tilesOk A_c sz))]), (.agg #[(Fl r1), (Fl r3), (Fl r5), (Fl r7), (Fl r9), (Fl r11), (Fl r13), (Iv A_c.width), (Iv A_c.height)]), (.agg #[(Fl r26), (Fl r28), (Fl r30), (Fl r32), (Fl r34), (Fl r36), (Fl r38), (Iv A_c.width), (Iv A_c.height)]), (Iv sz), (.tuple #[(.slice p47 ((gvA [] (tilesOk A_c sz) (tilesC A_c sz)).length) q48), (Bo (tilesOk A_c sz))]), (.slice p47 ((gvA [] (tilesOk A_c sz) (tilesC A_c sz)).length) q48), (Bo (tilesOk A_c sz)), (.tuple #[(.slice p75 ((gvA [] (tilesOk A_c sz) (tilesC A_c sz)).length) q76), (Bo (tilesOk A_c sz))]), (.agg #[(Fl r1), (Fl r3), (Fl r5), (Fl r7), (Fl r9), (Fl r11), (Fl r13), (Iv A_c.width), (Iv A_c.height)]), (.agg #[(Fl r52), (Fl r54), (Fl r56), (Fl r58), (Fl r60), (Fl r62), (Fl r64), (Iv A_c.width), (Iv A_c.height)]), (Iv sz), (.tuple #[(.slice p75 ((gvA [] (tilesOk A_c sz) (tilesC A_c sz)).length) q76), (Bo (tilesOk A_c sz))]), (.slice p75 ((gvA [] (tilesOk A_c sz) (tilesC A_c sz)).length) q76), (Bo (tilesOk A_c sz)), v80, v81, v82, v83, v84, v85, v86, v87, (Bo ((!β1) || β2)), (.slice p75 ((gvA [] (tilesOk A_c sz) (tilesC A_c sz)).length) q76), (Iv 1), (Iv (1 + ((gvA [] (tilesOk A_c sz) (tilesC A_c sz)).length : Int) * 4)), (.slice p75 ((gvA [] (tilesOk A_c sz) (tilesC A_c sz)).length) q76), (Iv 1), (Iv (1 + ((mkL fT 4 1 (gvA [] (tilesOk A_c sz) (tilesC A_c sz)).length).length : Int) * 4)), (Iv (1 + ((mkL fT 4 1 (gvA [] (tilesOk A_c sz) (tilesC A_c sz)).length).length : Int) * 4)), (Bo (icmp .lss (1 + ((mkL fT 4 1 (gvA [] (tilesOk A_c sz) (tilesC A_c sz)).length).length : Int) * 4) 0)), (Iv (1 + ((mkL fT 4 1 (gvA [] (tilesOk A_c sz) (tilesC A_c sz)).length).length : Int) * 4)), (Iv (1 + ((gvA [] (tilesOk A_c sz) (tilesC A_c sz)).length : Int) * 4)), (Bo (icmp .neq (1 + ((mkL fT 4 1 (gvA [] (tilesOk A_c sz) (tilesC A_c sz)).length).length : Int) * 4) (1 + ((gvA [] (tilesOk A_c sz) (tilesC A_c sz)).length : Int) * 4))), (.tuple #[(.slice p146 ((gvA [] (tilesOk A_c sz) (tilesC A_c sz)).length) q147), (Bo (tilesOk A_c sz))]), (.agg #[(Fl r1), (Fl r3), (Fl r5), (Fl r7), (Fl r9), (Fl r11), (Fl r13), (Iv A_c.width), (Iv A_c.height)]), (.agg #[(Fl r123), (Fl r125), (Fl r127), (Fl r129), (Fl r131), (Fl r133), (Fl r135), (Iv A_c.width), (Iv A_c.height)]), (Iv sz), (.tuple #[(.slice p146 ((gvA [] (tilesOk A_c sz) (tilesC A_c sz)).length) q147), (Bo (tilesOk A_c sz))]), (.slice p146 ((gvA [] (tilesOk A_c sz) (tilesC A_c sz)).length) q147), (Bo (tilesOk A_c sz)), v151, v152, v153, v154, v155, v156, v157, v158, (Bo ((!β3) || β4)), Ud, Ud, Ud, Ud, Ud, Ud, Ud, Ud]) _
  refine wpList_nil (hK150 _ _ ?_)
  refine wp_cond_split (t := (!β3) || β4) (ev rfl) (fun c165 => ?_) (fun c165 => ?_)
  · have c165' := c165
    (try simp only [hβ1, hβ2, hβ3, hβ4, sameX_selfTil, bne_self_eq_false] at c165')
    (try simp only [hβ1, hβ2, hβ3, hβ4] at c165')
    (try simp only [icmp, Bool.and_eq_true, Bool.or_eq_true, Bool.and_eq_false_iff, Bool.or_eq_false_iff, Bool.not_eq_true', Bool.not_eq_false', decide_eq_true_eq, decide_eq_false_iff_not, beq_iff_eq, bne_iff_ne, beq_eq_false_iff_ne, bne_eq_false_iff_eq] at c165')
    refine wp_seq_k fun K166 hK166 => ?_
    refine wp_region_lit ?_
    refine q_is rfl rfl (does_assign (u := (Bo false)) (ev rfl)) (by dsimp only [List.set]; try rfl) ?_
    refine wpList_nil (hK166 _ _ ?_)
    refine wp_ret ?_
    dsimp only [Exit.then, Exit.inBlock]
    refine ret_val (v := (Bo false)) (res_T rfl (slot rfl)) X164 ?_
    try simp only [h2, h4, h6, h8, h10, h12, h14, h27, h29, h31, h33, h35, h37, h39, h53, h55, h57, h59, h61, h63, h65, hβ1, hβ2, h124, h126, h128, h130, h132, h134, h136, hβ3, hβ4, sameX_selfTil, bne_self_eq_false] at c94 c112 c117 c165
    have x167 : true = false := by first | with_reducible rfl | (exfalso; omega) | (exfalso; simp only [mkL_len] at * <;> omega) | (simp only [sameX_selfTil, bne_self_eq_false, h2, h4, h6, h8, h10, h12, h14, h27, h29, h31, h33, h35, h37, h39, h53, h55, h57, h59, h61, h63, h65, hβ1, hβ2, h124, h126, h128, h130, h132, h134, h136, hβ3, hβ4, c94, c112, c117, c165]; done) | (simp [sameX_selfTil, bne_self_eq_false, h2, h4, h6, h8, h10, h12, h14, h27, h29, h31, h33, h35, h37, h39, h53, h55, h57, h59, h61, h63, h65, hβ1, hβ2, h124, h126, h128, h130, h132, h134, h136, hβ3, hβ4, c94, c112, c117, c165]; done) | (simp_all; done) | (exfalso; simp_all; done)
    exact (by first | rfl | rw [x167])
  have c165' := c165
  (try simp only [hβ1, hβ2, hβ3, hβ4, sameX_selfTil, bne_self_eq_false] at c165')
  (try simp only [hβ1, hβ2, hβ3, hβ4] at c165')
  (try simp only [icmp, Bool.and_eq_true, Bool.or_eq_true, Bool.and_eq_false_iff, Bool.or_eq_false_iff, Bool.not_eq_true', Bool.not_eq_false', decide_eq_true_eq, decide_eq_false_iff_not, beq_iff_eq, bne_iff_ne, beq_eq_false_iff_ne, bne_eq_false_iff_eq] at c165')
  refine wp_skip (hK149 _ _ ?_)
  refine wp_seq_k fun K168 hK168 => ?_
  refine wp_region_lit ?_
  refine q_is rfl rfl (does_assign (u := (Iv 1)) (ev rfl)) (by dsimp only [List.set]; try rfl) ?_
  refine wpList_nil (hK168 _ _ ?_)
  refine wp_seq_k fun K169 hK169 => ?_
  refine wp_region_lit ?_
  refine q_is rfl rfl (does_move (u := (.slice p75 ((gvA [] (tilesOk A_c sz) (tilesC A_c sz)).length) q76)) (ev rfl)) (by dsimp only [List.set]; try rfl) ?_
  refine q_is rfl rfl (does_move (u := (Iv 1)) (ev rfl)) (by dsimp only [List.set]; try rfl) ?_
  refine seqd rfl rfl (does_call (args := #[(.slice p75 ((gvA [] (tilesOk A_c sz) (tilesC A_c sz)).length) q76), (Iv 1)]) cal41 (evs rfl) (c_laws_heldTileS (.slice p75 ((gvA [] (tilesOk A_c sz) (tilesC A_c sz)).length) q76) (mkL fT 4 1 (gvA [] (tilesOk A_c sz) (tilesC A_c sz)).length) 1 _ (hM101 _ (((((Same.refl _ _).ext E107).ext E121).ext E138).ext E161)) (by exact mkL_eq) (by omega) (by rw [mkL_len]; omega))) ?_; rintro _ w171 ⟨E170, rfl⟩
  have X172 := Ext.gr X164 E170
  show wpList _ _ _ _ (fr [(.agg #[(Fl r1), (Fl r3), (Fl r5), (Fl r7), (Fl r9), (Fl r11), (Fl r13), (Iv A_c.width), (Iv A_c.height)]), (Iv sz), (Pt b16 0), Ud, (Bo false), (.slice p47 ((gvA [] (tilesOk A_c sz) (tilesC A_c sz)).length) q48), (Bo (tilesOk A_c sz)), (.slice p75 ((gvA [] (tilesOk A_c sz) (tilesC A_c sz)).length) q76), (Bo (tilesOk A_c sz)), (Iv (1 + ((gvA [] (tilesOk A_c sz) (tilesC A_c sz)).length : Int) * 4)), (Iv 1), (.slice p146 ((gvA [] (tilesOk A_c sz) (tilesC A_c sz)).length) q147), (Bo (tilesOk A_c sz)), (.tuple #[(.slice p47 ((gvA [] (tilesOk A_c sz) (tilesC A_c sz)).length) q48), (Bo (tilesOk A_c sz))]), (.agg #[(Fl r1), (Fl r3), (Fl r5), (Fl r7), (Fl r9), (Fl r11), (Fl r13), (Iv A_c.width), (Iv A_c.height)]), (.agg #[(Fl r26), (Fl r28), (Fl r30), (Fl r32), (Fl r34), (Fl r36), (Fl r38), (Iv A_c.width), (Iv A_c.height)]), (Iv sz), (.tuple #[(.slice p47 ((gvA [] (tilesOk A_c sz) (tilesC A_c sz)).length) q48), (Bo (tilesOk A_c sz))]), (.slice p47 ((gvA [] (tilesOk A_c sz) (tilesC A_c sz)).length) q48), (Bo (tilesOk A_c sz)), (.tuple #[(.slice p75 ((gvA [] (tilesOk A_c sz) (tilesC A_c sz)).length) q76), (Bo (tilesOk A_c sz))]), (.agg #[(Fl r1), (Fl r3), (Fl r5), (Fl r7), (Fl r9), (Fl r11), (Fl r13), (Iv A_c.width), (Iv A_c.height)]), (.agg #[(Fl r52), (Fl r54), (Fl r56), (Fl r58), (Fl r60), (Fl r62), (Fl r64), (Iv A_c.width), (Iv A_c.height)]), (Iv sz), (.tuple #[(.slice p75 ((gvA [] (tilesOk A_c sz) (tilesC A_c sz)).length) q76), (Bo (tilesOk A_c sz))]), (.slice p75 ((gvA [] (tilesOk A_c sz) (tilesC A_c sz)).length) q76), (Bo (tilesOk A_c sz)), v80, v81, v82, v83, v84, v85, v86, v87, (Bo ((!β1) || β2)), (.slice p75 ((gvA [] (tilesOk A_c sz) (tilesC A_c sz)).length) q76), (Iv 1), (Iv (1 + ((gvA [] (tilesOk A_c sz) (tilesC A_c sz)).length : Int) * 4)), (.slice p75 ((gvA [] (tilesOk A_c sz) (tilesC A_c sz)).length) q76), (Iv 1), (Iv (1 + ((mkL fT 4 1 (gvA [] (tilesOk A_c sz) (tilesC A_c sz)).length).length : Int) * 4)), (Iv (1 + ((mkL fT 4 1 (gvA [] (tilesOk A_c sz) (tilesC A_c sz)).length).length : Int) * 4)), (Bo (icmp .lss (1 + ((mkL fT 4 1 (gvA [] (tilesOk A_c sz) (tilesC A_c sz)).length).length : Int) * 4) 0)), (Iv (1 + ((mkL fT 4 1 (gvA [] (tilesOk A_c sz) (tilesC A_c sz)).length).length : Int) * 4)), (Iv (1 + ((gvA [] (tilesOk A_c sz) (tilesC A_c sz)).length : Int) * 4)), (Bo (icmp .neq (1 + ((mkL fT 4 1 (gvA [] (tilesOk A_c sz) (tilesC A_c sz)).length).length : Int) * 4) (1 + ((gvA [] (tilesOk A_c sz) (tilesC A_c sz)).length : Int) * 4))), (.tuple #[(.slice p146 ((gvA [] (tilesOk A_c sz) (tilesC A_c sz)).length) q147), (Bo (tilesOk A_c sz))]), (.agg #[(Fl r1), (Fl r3), (Fl r5), (Fl r7), (Fl r9), (Fl r11), (Fl r13), (Iv A_c.width), (Iv A_c.height)]), (.agg #[(Fl r123), (Fl r125), (Fl r127), (Fl r129), (Fl r131), (Fl r133), (Fl r135), (Iv A_c.width), (Iv A_c.height)]), (Iv sz), (.tuple #[(.slice p146 ((gvA [] (tilesOk A_c sz) (tilesC A_c sz)).length) q147), (Bo (tilesOk A_c sz))]), (.slice p146 ((gvA [] (tilesOk A_c sz) (tilesC A_c sz)).length) q147), (Bo (tilesOk A_c sz)), v151, v152, v153, v154, v155, v156, v157, v158, (Bo ((!β3) || β4)), (.slice p75 ((gvA [] (tilesOk A_c sz) (tilesC A_c sz)).length) q76), (Iv 1), (Iv (1 + ((mkL fT 4 1 (gvA [] (tilesOk A_c sz) (tilesC A_c sz)).length).length : Int) * 4)), Ud, Ud, Ud, Ud, Ud]) _
  refine q_is rfl rfl (does_assign (u := (Iv (1 + ((mkL fT 4 1 (gvA [] (tilesOk A_c sz) (tilesC A_c sz)).length).length : Int) * 4))) (ev rfl)) (by dsimp only [List.set]; try rfl) ?_
  refine wpList_nil (hK169 _ _ ?_)
  refine wp_seq_k fun K173 hK173 => ?_
  refine wp_seq_k fun K174 hK174 => ?_
  refine wp_region_lit ?_
  refine q_is rfl rfl (does_move (u := (Iv (1 + ((mkL fT 4 1 (gvA [] (tilesOk A_c sz) (tilesC A_c sz)).length).length : Int) * 4))) (ev rfl)) (by dsimp only [List.set]; try rfl) ?_
  refine q_is rfl rfl (does_icmp (p := 1 + ((mkL fT 4 1 (gvA [] (tilesOk A_c sz) (tilesC A_c sz)).length).length : Int) * 4) (q := 0) (.inr (.inr (.inl rfl))) (ev rfl) (ev rfl)) (by dsimp only [List.set]; try rfl) ?_
  refine wpList_nil (hK174 _ _ ?_)
  refine wp_cond_false ((ev (rfl : evl _ _ = .bool (icmp .lss (1 + ((mkL fT 4 1 (gvA [] (tilesOk A_c sz) (tilesC A_c sz)).length).length : Int) * 4) 0))).trans (congrArg Value.bool c112)) ?_
  refine wp_skip (hK173 _ _ ?_)
  refine wp_seq_k fun K175 hK175 => ?_
  refine wp_seq_k fun K176 hK176 => ?_
  refine wp_region_lit ?_
  refine q_is rfl rfl (does_move (u := (Iv (1 + ((mkL fT 4 1 (gvA [] (tilesOk A_c sz) (tilesC A_c sz)).length).length : Int) * 4))) (ev rfl)) (by dsimp only [List.set]; try rfl) ?_
  refine q_is rfl rfl (does_move (u := (Iv (1 + ((gvA [] (tilesOk A_c sz) (tilesC A_c sz)).length : Int) * 4))) (ev rfl)) (by dsimp only [List.set]; try rfl) ?_
  refine q_is rfl rfl (does_icmp (p := 1 + ((mkL fT 4 1 (gvA [] (tilesOk A_c sz) (tilesC A_c sz)).length).length : Int) * 4) (q := 1 + ((gvA [] (tilesOk A_c sz) (tilesC A_c sz)).length : Int) * 4) (.inr (.inl rfl)) (ev rfl) (ev rfl)) (by dsimp only [List.set]; try rfl) ?_
  refine wpList_nil (hK176 _ _ ?_)
  refine wp_cond_false ((ev (rfl : evl _ _ = .bool (icmp .neq (1 + ((mkL fT 4 1 (gvA [] (tilesOk A_c sz) (tilesC A_c sz)).length).length : Int) * 4) (1 + ((gvA [] (tilesOk A_c sz) (tilesC A_c sz)).length : Int) * 4)))).trans (congrArg Value.bool c117)) ?_
  refine wp_skip (hK175 _ _ ?_)
  refine wp_seq_k fun K177 hK177 => ?_
  refine wp_region_lit ?_
  refine q_is rfl rfl (does_assign (u := (Bo true)) (ev rfl)) (by dsimp only [List.set]; try rfl) ?_
  refine wpList_nil (hK177 _ _ ?_)
  refine wp_ret ?_
  refine ret_val (v := (Bo true)) (res_T rfl (slot rfl)) X172 ?_
  try simp only [h2, h4, h6, h8, h10, h12, h14, h27, h29, h31, h33, h35, h37, h39, h53, h55, h57, h59, h61, h63, h65, hβ1, hβ2, h124, h126, h128, h130, h132, h134, h136, hβ3, hβ4, sameX_selfTil, bne_self_eq_false] at c94 c112 c117 c165
  exact rfl

end Go.Proofs.Ytbbidfadenmmjaa
