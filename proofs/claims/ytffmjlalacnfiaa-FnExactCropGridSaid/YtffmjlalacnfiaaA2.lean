/- contracts of functions, each walked once -/
import Derived.Test.YtffmjlalacnfiaaA
namespace Go.Proofs.Ytffmjlalacnfiaa
open Go Go.RowKit
set_option maxRecDepth 100000
set_option maxHeartbeats 3200000
set_option linter.unusedVariables false
set_option linter.unusedSimpArgs false

/- spec.l06Point -/
theorem c_spec_l06Point (low : List Value) (A_low : V3) (step : Nat) (x : Int) (y : Int) (z : Int) (w : World) (hv_low : RV3 w A_low low) : Gives Try.prog 38 #[(.agg low.toArray), (Fl step), (Iv x), (Iv y), (Iv z)] w (fun v w' => ∃ cs_1 : List Value, v = (.agg cs_1.toArray) ∧ RV3 w (ptG A_low (cf .f32 step) x y z) cs_1) := by
  obtain ⟨r1, r3, r5, rfl, h2, h4, h6⟩ := hv_low
  refine enter [(.agg #[(Fl r1), (Fl r3), (Fl r5)]), (Fl step), (Iv x), (Iv y), (Iv z), Ud, Ud, Ud, Ud, Ud, Ud, Ud, Ud, Ud, Ud, Ud, Ud, Ud, Ud, Ud, Ud, Ud, Ud, Ud, Ud, Ud, Ud, Ud] Try.func38 rfl Try.ntmps38 rfl ?_
  refine wp_seq_k fun K7 hK7 => ?_
  refine wp_region_lit ?_
  refine seqd rfl rfl (does_box (u := (.agg #[(Fl r1), (Fl r3), (Fl r5)])) (ev rfl)) ?_; rintro _ w12 ⟨b8, rfl, hb9, hB10, E11⟩
  have g13 : w.heap.size ≤ b8 := Nat.le_trans (Below.size (Ext.refl w)) hb9
  change Blk _ _ [(Fl r1), (Fl r3), (Fl r5)] at hB10
  have X14 := Ext.gr (Ext.refl w) E11
  show wpList _ _ _ _ (fr [(.agg #[(Fl r1), (Fl r3), (Fl r5)]), (Fl step), (Iv x), (Iv y), (Iv z), (Pt b8 0), Ud, Ud, Ud, Ud, Ud, Ud, Ud, Ud, Ud, Ud, Ud, Ud, Ud, Ud, Ud, Ud, Ud, Ud, Ud, Ud, Ud, Ud]) _
  refine seqd rfl rfl (does_alloc z29) ?_; rintro _ w19 ⟨b15, rfl, hb16, hB17, E18⟩
  have n20 : b8 < b15 := Nat.lt_of_lt_of_le (Blk.lt hB10) hb16
  have g21 : w.heap.size ≤ b15 := Nat.le_trans (Below.size X14) hb16
  change Blk _ _ [(Fl 0), (Fl 0), (Fl 0)] at hB17
  have X22 := Ext.gr X14 E18
  show wpList _ _ _ _ (fr [(.agg #[(Fl r1), (Fl r3), (Fl r5)]), (Fl step), (Iv x), (Iv y), (Iv z), (Pt b8 0), Ud, Ud, Ud, Ud, (Pt b15 0), Ud, Ud, Ud, Ud, Ud, Ud, Ud, Ud, Ud, Ud, Ud, Ud, Ud, Ud, Ud, Ud, Ud]) _
  refine wpList_nil (hK7 _ _ ?_)
  refine wp_seq_k fun K23 hK23 => ?_
  refine wp_region_lit ?_
  refine q_is rfl rfl (does_move (u := (Fl step)) (ev rfl)) (by dsimp only [List.set]; try rfl) ?_
  refine q_is rfl rfl (does_move (u := (Iv x)) (ev rfl)) (by dsimp only [List.set]; try rfl) ?_
  refine q_is rfl rfl (does_conv_if (k := .f32) Try.underlying2 Try.underlying22 (ev rfl)) (by dsimp only [List.set]; try rfl) ?_
  refine seqd rfl rfl (does_float (.inr (.inr (.inl rfl))) (ev rfl) (ev rfl)) ?_; rintro _ w27 ⟨r24, rfl, h25, E26⟩
  have X28 := Ext.gr X22 E26
  show wpList _ _ _ _ (fr [(.agg #[(Fl r1), (Fl r3), (Fl r5)]), (Fl step), (Iv x), (Iv y), (Iv z), (Pt b8 0), Ud, Ud, Ud, Ud, (Pt b15 0), Ud, (Fl step), (Iv x), (Fl (FloatKind.f32.nearest x)), (Fl r24), Ud, Ud, Ud, Ud, Ud, Ud, Ud, Ud, Ud, Ud, Ud, Ud]) _
  refine q_is rfl rfl (does_move (u := (Fl step)) (ev rfl)) (by dsimp only [List.set]; try rfl) ?_
  refine q_is rfl rfl (does_move (u := (Iv y)) (ev rfl)) (by dsimp only [List.set]; try rfl) ?_
  refine q_is rfl rfl (does_conv_if (k := .f32) Try.underlying2 Try.underlying22 (ev rfl)) (by dsimp only [List.set]; try rfl) ?_
  refine seqd rfl rfl (does_float (.inr (.inr (.inl rfl))) (ev rfl) (ev rfl)) ?_; rintro _ w32 ⟨r29, rfl, h30, E31⟩
  have X33 := Ext.gr X28 E31
  show wpList _ _ _ _ (fr [(.agg #[(Fl r1), (Fl r3), (Fl r5)]), (Fl step), (Iv x), (Iv y), (Iv z), (Pt b8 0), Ud, Ud, Ud, Ud, (Pt b15 0), Ud, (Fl step), (Iv x), (Fl (FloatKind.f32.nearest x)), (Fl r24), (Fl step), (Iv y), (Fl (FloatKind.f32.nearest y)), (Fl r29), Ud, Ud, Ud, Ud, Ud, Ud, Ud, Ud]) _
  refine q_is rfl rfl (does_move (u := (Fl step)) (ev rfl)) (by dsimp only [List.set]; try rfl) ?_
  refine q_is rfl rfl (does_move (u := (Iv z)) (ev rfl)) (by dsimp only [List.set]; try rfl) ?_
  refine q_is rfl rfl (does_conv_if (k := .f32) Try.underlying2 Try.underlying22 (ev rfl)) (by dsimp only [List.set]; try rfl) ?_
  refine seqd rfl rfl (does_float (.inr (.inr (.inl rfl))) (ev rfl) (ev rfl)) ?_; rintro _ w37 ⟨r34, rfl, h35, E36⟩
  have X38 := Ext.gr X33 E36
  show wpList _ _ _ _ (fr [(.agg #[(Fl r1), (Fl r3), (Fl r5)]), (Fl step), (Iv x), (Iv y), (Iv z), (Pt b8 0), Ud, Ud, Ud, Ud, (Pt b15 0), Ud, (Fl step), (Iv x), (Fl (FloatKind.f32.nearest x)), (Fl r24), (Fl step), (Iv y), (Fl (FloatKind.f32.nearest y)), (Fl r29), (Fl step), (Iv z), (Fl (FloatKind.f32.nearest z)), (Fl r34), Ud, Ud, Ud, Ud]) _
  refine q_is rfl rfl (does_build (parts' := [(0, (Fl r24)), (1, (Fl r29)), (2, (Fl r34))]) (cells := #[(Fl r24), (Fl r29), (Fl r34)]) (evp rfl) (by kernel_rfl)) (by dsimp only [List.set]; try rfl) ?_
  refine seqd rfl rfl (does_alloc z29) ?_; rintro _ w43 ⟨b39, rfl, hb40, hB41, E42⟩
  have n44 : b8 < b39 := Nat.lt_of_lt_of_le (Blk.lt ((((hB10.ext E18).ext E26).ext E31).ext E36)) hb40
  have n45 : b15 < b39 := Nat.lt_of_lt_of_le (Blk.lt (((hB17.ext E26).ext E31).ext E36)) hb40
  have g46 : w.heap.size ≤ b39 := Nat.le_trans (Below.size X38) hb40
  change Blk _ _ [(Fl 0), (Fl 0), (Fl 0)] at hB41
  have X47 := Ext.gr X38 E42
  show wpList _ _ _ _ (fr [(.agg #[(Fl r1), (Fl r3), (Fl r5)]), (Fl step), (Iv x), (Iv y), (Iv z), (Pt b8 0), Ud, Ud, Ud, Ud, (Pt b15 0), (Pt b39 0), (Fl step), (Iv x), (Fl (FloatKind.f32.nearest x)), (Fl r24), (Fl step), (Iv y), (Fl (FloatKind.f32.nearest y)), (Fl r29), (Fl step), (Iv z), (Fl (FloatKind.f32.nearest z)), (Fl r34), (.agg #[(Fl r24), (Fl r29), (Fl r34)]), Ud, Ud, Ud]) _
  refine seqn rfl rfl (does_store (n := 3) (cs := [(Fl 0), (Fl 0), (Fl 0)]) (u := (.agg #[(Fl r24), (Fl r29), (Fl r34)])) (ev rfl) (ev rfl) Try.sizeOf29 rfl hB41 (Nat.le_of_ble_eq_true rfl) rfl) ?_; rintro _ w50 ⟨rfl, W48, hB49⟩
  change Blk _ _ [(Fl r24), (Fl r29), (Fl r34)] at hB49
  have X51 := Below.wr X47 W48 g46
  refine wpList_nil (hK23 _ _ ?_)
  refine wp_seq_k fun K52 hK52 => ?_
  refine wp_region_lit ?_
  refine q_is rfl rfl (does_loadAgg (cs := [(Fl r1), (Fl r3), (Fl r5)]) (ev rfl) Try.isAgg29 Try.sizeOf29 (Blk.cells ((((((hB10.ext E18).ext E26).ext E31).ext E36).ext E42).wr W48 (Nat.ne_of_lt n44))) rfl) (by dsimp only [List.set]; try rfl) ?_
  refine q_is rfl rfl (does_loadAgg (cs := [(Fl r24), (Fl r29), (Fl r34)]) (ev rfl) Try.isAgg29 Try.sizeOf29 (Blk.cells hB49) rfl) (by dsimp only [List.set]; try rfl) ?_
  refine seqd rfl rfl (does_call (args := #[(.agg #[(Fl r1), (Fl r3), (Fl r5)]), (.agg #[(Fl r24), (Fl r29), (Fl r34)])]) cal54 (evs rfl) (c_spec_l01Add [(Fl r1), (Fl r3), (Fl r5)] A_low [(Fl r24), (Fl r29), (Fl r34)] (V3.mk (cf .f32 r24) (cf .f32 r29) (cf .f32 r34)) _ ⟨r1, r3, r5, rfl, h2, h4, h6⟩ ⟨r24, r29, r34, rfl, rfl, rfl, rfl⟩)) ?_; rintro _ w54 ⟨E53, ⟨_, rfl, ⟨r55, r57, r59, rfl, h56, h58, h60⟩⟩⟩
  have X61 := Ext.gr X51 E53
  show wpList _ _ _ _ (fr [(.agg #[(Fl r1), (Fl r3), (Fl r5)]), (Fl step), (Iv x), (Iv y), (Iv z), (Pt b8 0), Ud, Ud, Ud, Ud, (Pt b15 0), (Pt b39 0), (Fl step), (Iv x), (Fl (FloatKind.f32.nearest x)), (Fl r24), (Fl step), (Iv y), (Fl (FloatKind.f32.nearest y)), (Fl r29), (Fl step), (Iv z), (Fl (FloatKind.f32.nearest z)), (Fl r34), (.agg #[(Fl r24), (Fl r29), (Fl r34)]), (.agg #[(Fl r1), (Fl r3), (Fl r5)]), (.agg #[(Fl r24), (Fl r29), (Fl r34)]), (.agg #[(Fl r55), (Fl r57), (Fl r59)])]) _
  refine seqn rfl rfl (does_store (n := 3) (cs := [(Fl 0), (Fl 0), (Fl 0)]) (u := (.agg #[(Fl r55), (Fl r57), (Fl r59)])) (ev rfl) (ev rfl) Try.sizeOf29 rfl ((((((hB17.ext E26).ext E31).ext E36).ext E42).wr W48 (Nat.ne_of_lt n45)).ext E53) (Nat.le_of_ble_eq_true rfl) rfl) ?_; rintro _ w64 ⟨rfl, W62, hB63⟩
  change Blk _ _ [(Fl r55), (Fl r57), (Fl r59)] at hB63
  have X65 := Below.wr X61 W62 g21
  refine wpList_nil (hK52 _ _ ?_)
  refine wp_ret ?_
  refine ret_val (v := (.agg #[(Fl r55), (Fl r57), (Fl r59)])) (res_C rfl (slot rfl) (run_loadAgg (cs := [(Fl r55), (Fl r57), (Fl r59)]) Try.isAgg29 Try.sizeOf29 (Blk.cells hB63) rfl)) X65 ?_
  have x66 : cf .f32 r55 = (ptG A_low (cf .f32 step) x y z).x := by first | with_reducible rfl | (simp only [ptG, nrF, h2, h4, h6, h25, h30, h35, h56, h58, h60]; done) | (simp [ptG, nrF, h2, h4, h6, h25, h30, h35, h56, h58, h60]; done) | rfl
  have x67 : cf .f32 r57 = (ptG A_low (cf .f32 step) x y z).y := by first | with_reducible rfl | (simp only [ptG, nrF, h2, h4, h6, h25, h30, h35, h56, h58, h60]; done) | (simp [ptG, nrF, h2, h4, h6, h25, h30, h35, h56, h58, h60]; done) | rfl
  have x68 : cf .f32 r59 = (ptG A_low (cf .f32 step) x y z).z := by first | with_reducible rfl | (simp only [ptG, nrF, h2, h4, h6, h25, h30, h35, h56, h58, h60]; done) | (simp [ptG, nrF, h2, h4, h6, h25, h30, h35, h56, h58, h60]; done) | rfl
  exact ⟨[(Fl r55), (Fl r57), (Fl r59)], rfl, ⟨r55, r57, r59, rfl, x66, x67, x68⟩⟩

set_option maxHeartbeats 20000000 in
/- spec.CropGrid -/
theorem c_spec_CropGrid (g : List Value) (A_g : GridT) (fr : Value) (L_fr : List Int) (ct : Value) (L_ct : List Int) (w : World) (hv_g : RGridT w A_g g) (hv_fr : Sl RI 1 w fr L_fr) (hv_ct : Sl RI 1 w ct L_ct) : Gives Try.prog 14 #[(.agg g.toArray), fr, ct] w (fun v w' => ∃ cs_1 : List Value, v = (.tuple #[(.agg cs_1.toArray), (Bo (crpOk A_g L_fr L_ct))]) ∧ Hang w.heap.size w' (fun u => RGridT u (crpR A_g L_fr L_ct) cs_1)) := by
  obtain ⟨r1, r3, r5, r7, y9, rfl, h2, h4, h6, h8, h10⟩ := hv_g
  have hlen_fr := Sl.len hv_fr; obtain ⟨p_fr, q_fr, rfl⟩ := Sl.shape hv_fr
  have hlen_ct := Sl.len hv_ct; obtain ⟨p_ct, q_ct, rfl⟩ := Sl.shape hv_ct
  have hs13 := h10; have hs13l := Sl.len h10; obtain ⟨p11, q12, rfl⟩ := Sl.shape h10
  refine enter [(.agg #[(Fl r1), (Fl r3), (Fl r5), (Fl r7), (Iv A_g.x), (Iv A_g.y), (Iv A_g.z), (.slice p11 A_g.vals.length q12)]), (.slice p_fr L_fr.length q_fr), (.slice p_ct L_ct.length q_ct), Ud, Ud, Ud, Ud, Ud, Ud, Ud, Ud, Ud, Ud, Ud, Ud, Ud, Ud, Ud, Ud, Ud, Ud, Ud, Ud, Ud, Ud, Ud, Ud, Ud, Ud, Ud, Ud, Ud, Ud, Ud, Ud, Ud, Ud, Ud, Ud, Ud, Ud, Ud, Ud, Ud, Ud, Ud, Ud, Ud, Ud, Ud, Ud, Ud, Ud, Ud, Ud, Ud, Ud, Ud, Ud, Ud, Ud, Ud, Ud, Ud, Ud, Ud, Ud, Ud, Ud, Ud, Ud, Ud, Ud, Ud, Ud, Ud, Ud, Ud, Ud, Ud, Ud, Ud, Ud, Ud, Ud, Ud, Ud, Ud, Ud, Ud, Ud, Ud, Ud, Ud, Ud, Ud, Ud, Ud, Ud, Ud, Ud, Ud, Ud, Ud, Ud, Ud, Ud, Ud, Ud, Ud, Ud, Ud, Ud, Ud, Ud, Ud, Ud, Ud, Ud, Ud, Ud, Ud, Ud, Ud, Ud, Ud, Ud, Ud, Ud, Ud, Ud, Ud, Ud, Ud, Ud, Ud, Ud, Ud, Ud, Ud, Ud, Ud, Ud, Ud, Ud, Ud, Ud, Ud, Ud, Ud] Try.func14 rfl Try.ntmps14 rfl ?_
  refine wp_seq_k fun K14 hK14 => ?_
  refine wp_region_lit ?_
  refine seqd rfl rfl (does_box (u := (.agg #[(Fl r1), (Fl r3), (Fl r5), (Fl r7), (Iv A_g.x), (Iv A_g.y), (Iv A_g.z), (.slice p11 A_g.vals.length q12)])) (ev rfl)) ?_; rintro _ w19 ⟨b15, rfl, hb16, hB17, E18⟩
  have g20 : w.heap.size ≤ b15 := Nat.le_trans (Below.size (Ext.refl w)) hb16
  change Blk _ _ [(Fl r1), (Fl r3), (Fl r5), (Fl r7), (Iv A_g.x), (Iv A_g.y), (Iv A_g.z), (.slice p11 A_g.vals.length q12)] at hB17
  have X21 := Ext.gr (Ext.refl w) E18
  show wpList _ _ _ _ (fr [(.agg #[(Fl r1), (Fl r3), (Fl r5), (Fl r7), (Iv A_g.x), (Iv A_g.y), (Iv A_g.z), (.slice p11 A_g.vals.length q12)]), (.slice p_fr L_fr.length q_fr), (.slice p_ct L_ct.length q_ct), (Pt b15 0), Ud, Ud, Ud, Ud, Ud, Ud, Ud, Ud, Ud, Ud, Ud, Ud, Ud, Ud, Ud, Ud, Ud, Ud, Ud, Ud, Ud, Ud, Ud, Ud, Ud, Ud, Ud, Ud, Ud, Ud, Ud, Ud, Ud, Ud, Ud, Ud, Ud, Ud, Ud, Ud, Ud, Ud, Ud, Ud, Ud, Ud, Ud, Ud, Ud, Ud, Ud, Ud, Ud, Ud, Ud, Ud, Ud, Ud, Ud, Ud, Ud, Ud, Ud, Ud, Ud, Ud, Ud, Ud, Ud, Ud, Ud, Ud, Ud, Ud, Ud, Ud, Ud, Ud, Ud, Ud, Ud, Ud, Ud, Ud, Ud, Ud, Ud, Ud, Ud, Ud, Ud, Ud, Ud, Ud, Ud, Ud, Ud, Ud, Ud, Ud, Ud, Ud, Ud, Ud, Ud, Ud, Ud, Ud, Ud, Ud, Ud, Ud, Ud, Ud, Ud, Ud, Ud, Ud, Ud, Ud, Ud, Ud, Ud, Ud, Ud, Ud, Ud, Ud, Ud, Ud, Ud, Ud, Ud, Ud, Ud, Ud, Ud, Ud, Ud, Ud, Ud, Ud, Ud, Ud, Ud, Ud]) _
  refine seqd rfl rfl (does_alloc z31) ?_; rintro _ w26 ⟨b22, rfl, hb23, hB24, E25⟩
  have n27 : b15 < b22 := Nat.lt_of_lt_of_le (Blk.lt hB17) hb23
  have g28 : w.heap.size ≤ b22 := Nat.le_trans (Below.size X21) hb23
  change Blk _ _ [(Fl 0), (Fl 0), (Fl 0), (Fl 0), (Iv 0), (Iv 0), (Iv 0), (.slice none 0 0)] at hB24
  have X29 := Ext.gr X21 E25
  show wpList _ _ _ _ (fr [(.agg #[(Fl r1), (Fl r3), (Fl r5), (Fl r7), (Iv A_g.x), (Iv A_g.y), (Iv A_g.z), (.slice p11 A_g.vals.length q12)]), (.slice p_fr L_fr.length q_fr), (.slice p_ct L_ct.length q_ct), (Pt b15 0), Ud, Ud, (Pt b22 0), Ud, Ud, Ud, Ud, Ud, Ud, Ud, Ud, Ud, Ud, Ud, Ud, Ud, Ud, Ud, Ud, Ud, Ud, Ud, Ud, Ud, Ud, Ud, Ud, Ud, Ud, Ud, Ud, Ud, Ud, Ud, Ud, Ud, Ud, Ud, Ud, Ud, Ud, Ud, Ud, Ud, Ud, Ud, Ud, Ud, Ud, Ud, Ud, Ud, Ud, Ud, Ud, Ud, Ud, Ud, Ud, Ud, Ud, Ud, Ud, Ud, Ud, Ud, Ud, Ud, Ud, Ud, Ud, Ud, Ud, Ud, Ud, Ud, Ud, Ud, Ud, Ud, Ud, Ud, Ud, Ud, Ud, Ud, Ud, Ud, Ud, Ud, Ud, Ud, Ud, Ud, Ud, Ud, Ud, Ud, Ud, Ud, Ud, Ud, Ud, Ud, Ud, Ud, Ud, Ud, Ud, Ud, Ud, Ud, Ud, Ud, Ud, Ud, Ud, Ud, Ud, Ud, Ud, Ud, Ud, Ud, Ud, Ud, Ud, Ud, Ud, Ud, Ud, Ud, Ud, Ud, Ud, Ud, Ud, Ud, Ud, Ud, Ud, Ud, Ud, Ud, Ud, Ud]) _
  refine q_is rfl rfl (does_assign (u := (Bo false)) (ev rfl)) (by dsimp only [List.set]; try rfl) ?_
  refine wpList_nil (hK14 _ _ ?_)
  refine wp_seq_k fun K30 hK30 => ?_
  refine wp_seq_k fun K31 hK31 => ?_
  obtain ⟨β1, hβ1⟩ : ∃ b : Bool, b = (icmp .neq (L_fr.length : Int) 3) := ⟨_, rfl⟩
  obtain ⟨β2, hβ2⟩ : ∃ b : Bool, b = (icmp .neq (L_ct.length : Int) 3) := ⟨_, rfl⟩
  obtain ⟨β3, hβ3⟩ : ∃ b : Bool, b = (((!(isGrid A_g)) || β1) || β2) := ⟨_, rfl⟩
  obtain ⟨β4, hβ4⟩ : ∃ b : Bool, b = (hasG A_g (nth L_fr 0) (nth L_fr 1) (nth L_fr 2)) := ⟨_, rfl⟩
  refine region_draw (
    [Fact.pure [] (fun v => v = (Bo (isGrid A_g))),
    Fact.pure [12] (fun v => v = (Bo (!(isGrid A_g)))),
    Fact.pure [13] (fun v => v = (Bo (!(isGrid A_g)))),
    Fact.pure [14] (fun v => (!(isGrid A_g)) = false → v = (.slice p_fr L_fr.length q_fr)),
    Fact.pure [15, 14] (fun v => (!(isGrid A_g)) = false → v = (Iv (L_fr.length : Int))),
    Fact.pure [16, 14] (fun v => (!(isGrid A_g)) = false → v = (Bo β1)),
    Fact.pure [14, 17] (fun v => v = (Bo ((!(isGrid A_g)) || β1))),
    Fact.pure [18] (fun v => v = (Bo ((!(isGrid A_g)) || β1))),
    Fact.pure [19] (fun v => ((!(isGrid A_g)) || β1) = false → v = (.slice p_ct L_ct.length q_ct)),
    Fact.pure [20, 19] (fun v => ((!(isGrid A_g)) || β1) = false → v = (Iv (L_ct.length : Int))),
    Fact.pure [21, 19] (fun v => ((!(isGrid A_g)) || β1) = false → v = (Bo β2)),
    Fact.pure [19, 22] (fun v => v = (Bo β3)),
    Fact.pure [23] (fun v => v = (Bo β3)),
    Fact.pure [24] (fun v => β3 = false → v = (.slice p_fr L_fr.length q_fr)),
    Fact.mem [25, 24] (fun v w' => β3 = false → PtrR RI w' v (nth L_fr 0)) (by intro v w1 w2 hx h; exact fun hg1 => (h hg1).ext RI.mono hx),
    Fact.pure [26, 24] (fun v => β3 = false → v = (Iv (nth L_fr 0))),
    Fact.pure [24] (fun v => β3 = false → v = (.slice p_fr L_fr.length q_fr)),
    Fact.mem [28, 24] (fun v w' => β3 = false → PtrR RI w' v (nth L_fr 1)) (by intro v w1 w2 hx h; exact fun hg1 => (h hg1).ext RI.mono hx),
    Fact.pure [29, 24] (fun v => β3 = false → v = (Iv (nth L_fr 1))),
    Fact.pure [24] (fun v => β3 = false → v = (.slice p_fr L_fr.length q_fr)),
    Fact.mem [31, 24] (fun v w' => β3 = false → PtrR RI w' v (nth L_fr 2)) (by intro v w1 w2 hx h; exact fun hg1 => (h hg1).ext RI.mono hx),
    Fact.pure [32, 24] (fun v => β3 = false → v = (Iv (nth L_fr 2))),
    Fact.pure [27, 30, 33, 24] (fun v => β3 = false → v = (Bo β4)),
    Fact.pure [34, 24] (fun v => β3 = false → v = (Bo (!β4))),
    Fact.pure [24, 35] (fun v => v = (Bo (β3 || (!β4))))]) mixed (by kernel_rfl) (by intro _ _ d _ _ h; cases d <;> exact h) ?_
  obtain ⟨w32, hw34⟩ : ∃ w', w' = World.drew w26 := ⟨_, rfl⟩; rw [← hw34]; have E33 : Ext w26 w32 := by rw [hw34]; exact Ext.draw _
  clear hw34
  have X35 := Ext.gr X29 E33
  refine RW_d _ rfl (fun v => by dsimp only [List.set]; try rfl) (fun u hu hF => ?_) (fun v36 => ?_)
  · clear hF
    refine doesG_un rfl ?_
    refine (does_call (args := #[(Pt b15 0)]) cal24 (evs rfl) (c_spec_l06Is b15 0 [(Fl r1), (Fl r3), (Fl r5), (Fl r7), (Iv A_g.x), (Iv A_g.y), (Iv A_g.z), (.slice p11 A_g.vals.length q12)] A_g _ (Blk.cells (((hB17.ext E25).ext E33).ext hu)) ⟨r1, r3, r5, r7, (.slice p11 A_g.vals.length q12), rfl, h2, h4, h6, h8, (Sl.ext (Sl.ext hs13 RF.mono (Ext.gr X29 E33)) RF.mono hu)⟩)).mono ?_; rintro v u' ⟨hx, hv⟩
    exact ⟨hv, hx⟩
  refine RW_d _ rfl (fun v => by dsimp only [List.set]; try rfl) (fun u hu hF => ?_) (fun v37 => ?_)
  · have h12_ : v36 = (Bo (isGrid A_g)) := hF.1
    clear hF
    refine doesG_un rfl ?_
    obtain rfl := h12_
    refine (does_not (ev rfl)).mono ?_; rintro _ _ ⟨rfl, rfl⟩
    exact ⟨rfl, Ext.refl _⟩
  refine RW_d _ rfl (fun v => by dsimp only [List.set]; try rfl) (fun u hu hF => ?_) (fun v38 => ?_)
  · have h13_ : v37 = (Bo (!(isGrid A_g))) := hF.1
    clear hF
    refine doesG_un rfl ?_
    obtain rfl := h13_
    refine (does_move (u := (Bo (!(isGrid A_g)))) (ev rfl)).mono ?_; rintro _ _ ⟨rfl, rfl⟩
    exact ⟨rfl, Ext.refl _⟩
  refine RW_d _ rfl (fun v => by dsimp only [List.set]; try rfl) (fun u hu hF => ?_) (fun v39 => ?_)
  · have h14_ : v38 = (Bo (!(isGrid A_g))) := hF.1
    clear hF
    obtain rfl := h14_
    refine doesG_g (b := (!(isGrid A_g))) rfl (yld rfl rfl) (fun hg1 => ?_) (fun hc => ⟨fun hg1 => absurd hg1 hc, Ext.refl _⟩)
    refine (does_move (u := (.slice p_fr L_fr.length q_fr)) (ev rfl)).mono ?_; rintro _ _ ⟨rfl, rfl⟩
    exact ⟨fun _ => rfl, Ext.refl _⟩
  refine RW_d _ rfl (fun v => by dsimp only [List.set]; try rfl) (fun u hu hF => ?_) (fun v40 => ?_)
  · have h15_ : (!(isGrid A_g)) = false → v39 = (.slice p_fr L_fr.length q_fr) := hF.1
    have h14_ : v38 = (Bo (!(isGrid A_g))) := hF.2.1
    clear hF
    obtain rfl := h14_
    refine doesG_g (b := (!(isGrid A_g))) rfl (yld rfl rfl) (fun hg1 => ?_) (fun hc => ⟨fun hg1 => absurd hg1 hc, Ext.refl _⟩)
    obtain rfl := h15_ hg1
    refine (does_len_slice Try.underlying38 (ev rfl)).mono ?_; rintro _ _ ⟨rfl, rfl⟩
    exact ⟨fun _ => rfl, Ext.refl _⟩
  refine RW_d _ rfl (fun v => by dsimp only [List.set]; try rfl) (fun u hu hF => ?_) (fun v41 => ?_)
  · have h16_ : (!(isGrid A_g)) = false → v40 = (Iv (L_fr.length : Int)) := hF.1
    have h14_ : v38 = (Bo (!(isGrid A_g))) := hF.2.1
    clear hF
    obtain rfl := h14_
    refine doesG_g (b := (!(isGrid A_g))) rfl (yld rfl rfl) (fun hg1 => ?_) (fun hc => ⟨fun hg1 => absurd hg1 hc, Ext.refl _⟩)
    obtain rfl := h16_ hg1
    refine (does_icmp (p := (L_fr.length : Int)) (q := 3) (.inr (.inl rfl)) (ev rfl) (ev rfl)).mono ?_; rintro _ _ ⟨rfl, rfl⟩
    exact ⟨fun _ => (by first | rfl | (show _ = _; simp only [hβ1])), Ext.refl _⟩
  refine RW_d _ rfl (fun v => by dsimp only [List.set]; try rfl) (fun u hu hF => ?_) (fun v42 => ?_)
  · have h14_ : v38 = (Bo (!(isGrid A_g))) := hF.1
    have h17_ : (!(isGrid A_g)) = false → v41 = (Bo β1) := hF.2.1
    clear hF
    refine doesG_un rfl ?_
    skip
    obtain rfl := h14_
    refine (does_pick (b := (!(isGrid A_g))) (ev rfl) (ev rfl) (ev rfl)).mono ?_; rintro _ _ ⟨rfl, rfl⟩; refine ⟨?_, Ext.refl _⟩; skip
    cases hbb : (!(isGrid A_g)) <;> simp [hbb] at h17_ ⊢
    all_goals (first | rfl | (subst h17_; rfl) | simp_all)
  refine RW_d _ rfl (fun v => by dsimp only [List.set]; try rfl) (fun u hu hF => ?_) (fun v43 => ?_)
  · have h18_ : v42 = (Bo ((!(isGrid A_g)) || β1)) := hF.1
    clear hF
    refine doesG_un rfl ?_
    obtain rfl := h18_
    refine (does_move (u := (Bo ((!(isGrid A_g)) || β1))) (ev rfl)).mono ?_; rintro _ _ ⟨rfl, rfl⟩
    exact ⟨rfl, Ext.refl _⟩
  refine RW_d _ rfl (fun v => by dsimp only [List.set]; try rfl) (fun u hu hF => ?_) (fun v44 => ?_)
  · have h19_ : v43 = (Bo ((!(isGrid A_g)) || β1)) := hF.1
    clear hF
    obtain rfl := h19_
    refine doesG_g (b := ((!(isGrid A_g)) || β1)) rfl (yld rfl rfl) (fun hg1 => ?_) (fun hc => ⟨fun hg1 => absurd hg1 hc, Ext.refl _⟩)
    refine (does_move (u := (.slice p_ct L_ct.length q_ct)) (ev rfl)).mono ?_; rintro _ _ ⟨rfl, rfl⟩
    exact ⟨fun _ => rfl, Ext.refl _⟩
  refine RW_d _ rfl (fun v => by dsimp only [List.set]; try rfl) (fun u hu hF => ?_) (fun v45 => ?_)
  · have h20_ : ((!(isGrid A_g)) || β1) = false → v44 = (.slice p_ct L_ct.length q_ct) := hF.1
    have h19_ : v43 = (Bo ((!(isGrid A_g)) || β1)) := hF.2.1
    clear hF
    obtain rfl := h19_
    refine doesG_g (b := ((!(isGrid A_g)) || β1)) rfl (yld rfl rfl) (fun hg1 => ?_) (fun hc => ⟨fun hg1 => absurd hg1 hc, Ext.refl _⟩)
    obtain rfl := h20_ hg1
    refine (does_len_slice Try.underlying38 (ev rfl)).mono ?_; rintro _ _ ⟨rfl, rfl⟩
    exact ⟨fun _ => rfl, Ext.refl _⟩
  refine RW_d _ rfl (fun v => by dsimp only [List.set]; try rfl) (fun u hu hF => ?_) (fun v46 => ?_)
  · have h21_ : ((!(isGrid A_g)) || β1) = false → v45 = (Iv (L_ct.length : Int)) := hF.1
    have h19_ : v43 = (Bo ((!(isGrid A_g)) || β1)) := hF.2.1
    clear hF
    obtain rfl := h19_
    refine doesG_g (b := ((!(isGrid A_g)) || β1)) rfl (yld rfl rfl) (fun hg1 => ?_) (fun hc => ⟨fun hg1 => absurd hg1 hc, Ext.refl _⟩)
    obtain rfl := h21_ hg1
    refine (does_icmp (p := (L_ct.length : Int)) (q := 3) (.inr (.inl rfl)) (ev rfl) (ev rfl)).mono ?_; rintro _ _ ⟨rfl, rfl⟩
    exact ⟨fun _ => (by first | rfl | (show _ = _; simp only [hβ2])), Ext.refl _⟩
  refine RW_d _ rfl (fun v => by dsimp only [List.set]; try rfl) (fun u hu hF => ?_) (fun v47 => ?_)
  · have h19_ : v43 = (Bo ((!(isGrid A_g)) || β1)) := hF.1
    have h22_ : ((!(isGrid A_g)) || β1) = false → v46 = (Bo β2) := hF.2.1
    clear hF
    refine doesG_un rfl ?_
    skip
    obtain rfl := h19_
    refine (does_pick (b := ((!(isGrid A_g)) || β1)) (ev rfl) (ev rfl) (ev rfl)).mono ?_; rintro _ _ ⟨rfl, rfl⟩; refine ⟨?_, Ext.refl _⟩; rw [hβ3]; skip
    cases hbb : ((!(isGrid A_g)) || β1) <;> simp [hbb] at h22_ ⊢
    all_goals (first | rfl | (subst h22_; rfl) | simp_all)
  refine RW_d _ rfl (fun v => by dsimp only [List.set]; try rfl) (fun u hu hF => ?_) (fun v48 => ?_)
  · have h23_ : v47 = (Bo β3) := hF.1
    clear hF
    refine doesG_un rfl ?_
    obtain rfl := h23_
    refine (does_move (u := (Bo β3)) (ev rfl)).mono ?_; rintro _ _ ⟨rfl, rfl⟩
    exact ⟨rfl, Ext.refl _⟩
  refine RW_d _ rfl (fun v => by dsimp only [List.set]; try rfl) (fun u hu hF => ?_) (fun v49 => ?_)
  · have h24_ : v48 = (Bo β3) := hF.1
    clear hF
    obtain rfl := h24_
    refine doesG_g (b := β3) rfl (yld rfl rfl) (fun hg1 => ?_) (fun hc => ⟨fun hg1 => absurd hg1 hc, Ext.refl _⟩)
    refine (does_move (u := (.slice p_fr L_fr.length q_fr)) (ev rfl)).mono ?_; rintro _ _ ⟨rfl, rfl⟩
    exact ⟨fun _ => rfl, Ext.refl _⟩
  refine RW_d _ rfl (fun v => by dsimp only [List.set]; try rfl) (fun u hu hF => ?_) (fun v50 => ?_)
  · have h25_ : β3 = false → v49 = (.slice p_fr L_fr.length q_fr) := hF.1
    have h24_ : v48 = (Bo β3) := hF.2.1
    clear hF
    obtain rfl := h24_
    refine doesG_g (b := β3) rfl (yld rfl rfl) (fun hg1 => ?_) (fun hc => ⟨fun hg1 => absurd hg1 hc, Ext.refl _⟩)
    obtain rfl := h25_ hg1
    refine (does_indexSl (R := RI) (i := 0) (xs := L_fr) (e := (nth L_fr 0)) Try.underlying38 Try.sizeOf2 (ev rfl) (ev rfl) (Sl.ext (Sl.ext hv_fr RI.mono (Ext.gr X29 E33)) RI.mono hu) (by omega) (nth_some (by first | omega | (simp only [hβ1, hβ2, hβ3, icmp, Bool.or_eq_false_iff, Bool.not_eq_false', Bool.not_eq_true', bne_eq_false_iff_eq] at hg1; omega)))).mono ?_; rintro v u' ⟨b, of, cs, hv, hc, hR, hu'⟩; subst hu'
    exact ⟨fun _ => ⟨b, of, cs, hv, hc, hR⟩, Ext.refl _⟩
  refine RW_d _ rfl (fun v => by dsimp only [List.set]; try rfl) (fun u hu hF => ?_) (fun v51 => ?_)
  · have h26_ : β3 = false → PtrR RI u v50 (nth L_fr 0) := hF.1
    have h24_ : v48 = (Bo β3) := hF.2.1
    clear hF
    obtain rfl := h24_
    refine doesG_g (b := β3) rfl (yld rfl rfl) (fun hg1 => ?_) (fun hc => ⟨fun hg1 => absurd hg1 hc, Ext.refl _⟩)
    obtain ⟨b26_, o26_, _, rfl, hc26_, rfl⟩ := h26_ hg1
    refine (does_load (u := (Iv (nth L_fr 0))) (ev rfl) Try.isAgg2 (Cells.at hc26_ 0 rfl)).mono ?_; rintro _ _ ⟨rfl, rfl⟩
    exact ⟨fun _ => rfl, Ext.refl _⟩
  refine RW_d _ rfl (fun v => by dsimp only [List.set]; try rfl) (fun u hu hF => ?_) (fun v52 => ?_)
  · have h24_ : v48 = (Bo β3) := hF.1
    clear hF
    obtain rfl := h24_
    refine doesG_g (b := β3) rfl (yld rfl rfl) (fun hg1 => ?_) (fun hc => ⟨fun hg1 => absurd hg1 hc, Ext.refl _⟩)
    refine (does_move (u := (.slice p_fr L_fr.length q_fr)) (ev rfl)).mono ?_; rintro _ _ ⟨rfl, rfl⟩
    exact ⟨fun _ => rfl, Ext.refl _⟩
  refine RW_d _ rfl (fun v => by dsimp only [List.set]; try rfl) (fun u hu hF => ?_) (fun v53 => ?_)
  · have h28_ : β3 = false → v52 = (.slice p_fr L_fr.length q_fr) := hF.1
    have h24_ : v48 = (Bo β3) := hF.2.1
    clear hF
    obtain rfl := h24_
    refine doesG_g (b := β3) rfl (yld rfl rfl) (fun hg1 => ?_) (fun hc => ⟨fun hg1 => absurd hg1 hc, Ext.refl _⟩)
    obtain rfl := h28_ hg1
    refine (does_indexSl (R := RI) (i := 1) (xs := L_fr) (e := (nth L_fr 1)) Try.underlying38 Try.sizeOf2 (ev rfl) (ev rfl) (Sl.ext (Sl.ext hv_fr RI.mono (Ext.gr X29 E33)) RI.mono hu) (by omega) (nth_some (by first | omega | (simp only [hβ1, hβ2, hβ3, icmp, Bool.or_eq_false_iff, Bool.not_eq_false', Bool.not_eq_true', bne_eq_false_iff_eq] at hg1; omega)))).mono ?_; rintro v u' ⟨b, of, cs, hv, hc, hR, hu'⟩; subst hu'
    exact ⟨fun _ => ⟨b, of, cs, hv, hc, hR⟩, Ext.refl _⟩
  refine RW_d _ rfl (fun v => by dsimp only [List.set]; try rfl) (fun u hu hF => ?_) (fun v54 => ?_)
  · have h29_ : β3 = false → PtrR RI u v53 (nth L_fr 1) := hF.1
    have h24_ : v48 = (Bo β3) := hF.2.1
    clear hF
    obtain rfl := h24_
    refine doesG_g (b := β3) rfl (yld rfl rfl) (fun hg1 => ?_) (fun hc => ⟨fun hg1 => absurd hg1 hc, Ext.refl _⟩)
    obtain ⟨b29_, o29_, _, rfl, hc29_, rfl⟩ := h29_ hg1
    refine (does_load (u := (Iv (nth L_fr 1))) (ev rfl) Try.isAgg2 (Cells.at hc29_ 0 rfl)).mono ?_; rintro _ _ ⟨rfl, rfl⟩
    exact ⟨fun _ => rfl, Ext.refl _⟩
  refine RW_d _ rfl (fun v => by dsimp only [List.set]; try rfl) (fun u hu hF => ?_) (fun v55 => ?_)
  · have h24_ : v48 = (Bo β3) := hF.1
    clear hF
    obtain rfl := h24_
    refine doesG_g (b := β3) rfl (yld rfl rfl) (fun hg1 => ?_) (fun hc => ⟨fun hg1 => absurd hg1 hc, Ext.refl _⟩)
    refine (does_move (u := (.slice p_fr L_fr.length q_fr)) (ev rfl)).mono ?_; rintro _ _ ⟨rfl, rfl⟩
    exact ⟨fun _ => rfl, Ext.refl _⟩
  refine RW_d _ rfl (fun v => by dsimp only [List.set]; try rfl) (fun u hu hF => ?_) (fun v56 => ?_)
  · have h31_ : β3 = false → v55 = (.slice p_fr L_fr.length q_fr) := hF.1
    have h24_ : v48 = (Bo β3) := hF.2.1
    clear hF
    obtain rfl := h24_
    refine doesG_g (b := β3) rfl (yld rfl rfl) (fun hg1 => ?_) (fun hc => ⟨fun hg1 => absurd hg1 hc, Ext.refl _⟩)
    obtain rfl := h31_ hg1
    refine (does_indexSl (R := RI) (i := 2) (xs := L_fr) (e := (nth L_fr 2)) Try.underlying38 Try.sizeOf2 (ev rfl) (ev rfl) (Sl.ext (Sl.ext hv_fr RI.mono (Ext.gr X29 E33)) RI.mono hu) (by omega) (nth_some (by first | omega | (simp only [hβ1, hβ2, hβ3, icmp, Bool.or_eq_false_iff, Bool.not_eq_false', Bool.not_eq_true', bne_eq_false_iff_eq] at hg1; omega)))).mono ?_; rintro v u' ⟨b, of, cs, hv, hc, hR, hu'⟩; subst hu'
    exact ⟨fun _ => ⟨b, of, cs, hv, hc, hR⟩, Ext.refl _⟩
  refine RW_d _ rfl (fun v => by dsimp only [List.set]; try rfl) (fun u hu hF => ?_) (fun v57 => ?_)
  · have h32_ : β3 = false → PtrR RI u v56 (nth L_fr 2) := hF.1
    have h24_ : v48 = (Bo β3) := hF.2.1
    clear hF
    obtain rfl := h24_
    refine doesG_g (b := β3) rfl (yld rfl rfl) (fun hg1 => ?_) (fun hc => ⟨fun hg1 => absurd hg1 hc, Ext.refl _⟩)
    obtain ⟨b32_, o32_, _, rfl, hc32_, rfl⟩ := h32_ hg1
    refine (does_load (u := (Iv (nth L_fr 2))) (ev rfl) Try.isAgg2 (Cells.at hc32_ 0 rfl)).mono ?_; rintro _ _ ⟨rfl, rfl⟩
    exact ⟨fun _ => rfl, Ext.refl _⟩
  refine RW_d _ rfl (fun v => by dsimp only [List.set]; try rfl) (fun u hu hF => ?_) (fun v58 => ?_)
  · have h27_ : β3 = false → v51 = (Iv (nth L_fr 0)) := hF.1
    have h30_ : β3 = false → v54 = (Iv (nth L_fr 1)) := hF.2.1
    have h33_ : β3 = false → v57 = (Iv (nth L_fr 2)) := hF.2.2.1
    have h24_ : v48 = (Bo β3) := hF.2.2.2.1
    clear hF
    obtain rfl := h24_
    refine doesG_g (b := β3) rfl (yld rfl rfl) (fun hg1 => ?_) (fun hc => ⟨fun hg1 => absurd hg1 hc, Ext.refl _⟩)
    obtain rfl := h27_ hg1
    obtain rfl := h30_ hg1
    obtain rfl := h33_ hg1
    refine (does_call (args := #[(Pt b15 0), (Iv (nth L_fr 0)), (Iv (nth L_fr 1)), (Iv (nth L_fr 2))]) cal36 (evs rfl) (c_spec_l06Has b15 0 [(Fl r1), (Fl r3), (Fl r5), (Fl r7), (Iv A_g.x), (Iv A_g.y), (Iv A_g.z), (.slice p11 A_g.vals.length q12)] A_g (nth L_fr 0) (nth L_fr 1) (nth L_fr 2) _ (Blk.cells (((hB17.ext E25).ext E33).ext hu)) ⟨r1, r3, r5, r7, (.slice p11 A_g.vals.length q12), rfl, h2, h4, h6, h8, (Sl.ext (Sl.ext hs13 RF.mono (Ext.gr X29 E33)) RF.mono hu)⟩)).mono ?_; rintro v u' ⟨hx, hv⟩
    exact ⟨fun _ => hv.trans (by simp only [hβ4]), hx⟩
  refine RW_d _ rfl (fun v => by dsimp only [List.set]; try rfl) (fun u hu hF => ?_) (fun v59 => ?_)
  · have h34_ : β3 = false → v58 = (Bo β4) := hF.1
    have h24_ : v48 = (Bo β3) := hF.2.1
    clear hF
    obtain rfl := h24_
    refine doesG_g (b := β3) rfl (yld rfl rfl) (fun hg1 => ?_) (fun hc => ⟨fun hg1 => absurd hg1 hc, Ext.refl _⟩)
    obtain rfl := h34_ hg1
    refine (does_not (ev rfl)).mono ?_; rintro _ _ ⟨rfl, rfl⟩
    exact ⟨fun _ => rfl, Ext.refl _⟩
  refine RW_d _ rfl (fun v => by dsimp only [List.set]; try rfl) (fun u hu hF => ?_) (fun v60 => ?_)
  · have h24_ : v48 = (Bo β3) := hF.1
    have h35_ : β3 = false → v59 = (Bo (!β4)) := hF.2.1
    clear hF
    refine doesG_un rfl ?_
    skip
    obtain rfl := h24_
    refine (does_pick (b := β3) (ev rfl) (ev rfl) (ev rfl)).mono ?_; rintro _ _ ⟨rfl, rfl⟩; refine ⟨?_, Ext.refl _⟩; skip
    cases hbb : β3 <;> simp [hbb] at h35_ ⊢
    all_goals (first | rfl | (subst h35_; rfl) | simp_all)
  refine RW_fin ?_; intro w61 E62 hP63
  obtain ⟨⟨⟨⟨⟨⟨⟨⟨⟨⟨⟨⟨⟨⟨⟨⟨⟨⟨⟨⟨⟨⟨⟨⟨⟨-, -⟩, -⟩, -⟩, -⟩, -⟩, -⟩, -⟩, -⟩, -⟩, -⟩, -⟩, -⟩, -⟩, -⟩, -⟩, -⟩, -⟩, -⟩, -⟩, -⟩, -⟩, -⟩, -⟩, -⟩, q64⟩ := hP63
  have X65 := Ext.gr X35 E62
  have q64 : v60 = (Bo (β3 || (!β4))) := q64
  obtain rfl := q64
  show wpList _ _ _ _ (fr [(.agg #[(Fl r1), (Fl r3), (Fl r5), (Fl r7), (Iv A_g.x), (Iv A_g.y), (Iv A_g.z), (.slice p11 A_g.vals.length q12)]), (.slice p_fr L_fr.length q_fr), (.slice p_ct L_ct.length q_ct), (Pt b15 0), Ud, Ud, (Pt b22 0), (Bo false), Ud, Ud, Ud, Ud, v36, v37, v38, v39, v40, v41, v42, v43, v44, v45, v46, v47, v48, v49, v50, v51, v52, v53, v54, v55, v56, v57, v58, v59, (Bo (β3 || (!β4))), Ud, Ud, Ud, Ud, Ud, Ud, Ud, Ud, Ud, Ud, Ud, Ud, Ud, Ud, Ud, Ud, Ud, Ud, Ud, Ud, Ud, Ud, Ud, Ud, Ud, Ud, Ud, Ud, Ud, Ud, Ud, Ud, Ud, Ud, Ud, Ud, Ud, Ud, Ud, Ud, Ud, Ud, Ud, Ud, Ud, Ud, Ud, Ud, Ud, Ud, Ud, Ud, Ud, Ud, Ud, Ud, Ud, Ud, Ud, Ud, Ud, Ud, Ud, Ud, Ud, Ud, Ud, Ud, Ud, Ud, Ud, Ud, Ud, Ud, Ud, Ud, Ud, Ud, Ud, Ud, Ud, Ud, Ud, Ud, Ud, Ud, Ud, Ud, Ud, Ud, Ud, Ud, Ud, Ud, Ud, Ud, Ud, Ud, Ud, Ud, Ud, Ud, Ud, Ud, Ud, Ud, Ud, Ud, Ud, Ud, Ud, Ud, Ud]) _
  refine wpList_nil (hK31 _ _ ?_)
  refine wp_cond_split (t := β3 || (!β4)) (ev rfl) (fun c66 => ?_) (fun c66 => ?_)
  · have c66' := c66
    (try simp only [hβ1, hβ2, hβ3, hβ4] at c66')
    (try simp only [icmp, Bool.and_eq_true, Bool.or_eq_true, Bool.and_eq_false_iff, Bool.or_eq_false_iff, Bool.not_eq_true', Bool.not_eq_false', decide_eq_true_eq, decide_eq_false_iff_not, beq_iff_eq, bne_iff_ne, beq_eq_false_iff_ne, bne_eq_false_iff_eq] at c66')
    have hcf := crpA_f1 (g := A_g) (fr := L_fr) (ct := L_ct) (by assumption)
    refine wp_seq_k fun K67 hK67 => ?_
    refine wp_region_lit ?_
    refine q_is rfl rfl (does_build (parts' := []) (cells := #[(Fl 0), (Fl 0), (Fl 0), (Fl 0), (Iv 0), (Iv 0), (Iv 0), (.slice none 0 0)]) (evp rfl) (by kernel_rfl)) (by dsimp only [List.set]; try rfl) ?_
    refine seqn rfl rfl (does_store (n := 8) (cs := [(Fl 0), (Fl 0), (Fl 0), (Fl 0), (Iv 0), (Iv 0), (Iv 0), (.slice none 0 0)]) (u := (.agg #[(Fl 0), (Fl 0), (Fl 0), (Fl 0), (Iv 0), (Iv 0), (Iv 0), (.slice none 0 0)])) (ev rfl) (ev rfl) Try.sizeOf31 rfl ((hB24.ext E33).ext E62) (Nat.le_of_ble_eq_true rfl) rfl) ?_; rintro _ w70 ⟨rfl, W68, hB69⟩
    change Blk _ _ [(Fl 0), (Fl 0), (Fl 0), (Fl 0), (Iv 0), (Iv 0), (Iv 0), (.slice none 0 0)] at hB69
    have X71 := Below.wr X65 W68 g28
    refine q_is rfl rfl (does_assign (u := (Bo false)) (ev rfl)) (by dsimp only [List.set]; try rfl) ?_
    refine wpList_nil (hK67 _ _ ?_)
    refine wp_ret ?_
    dsimp only [Exit.then, Exit.inBlock]
    refine ret_val (v := (.tuple #[(.agg #[(Fl 0), (Fl 0), (Fl 0), (Fl 0), (Iv 0), (Iv 0), (Iv 0), (.slice none 0 0)]), (Bo false)])) (res_CT rfl (slot rfl) (run_loadAgg (cs := [(Fl 0), (Fl 0), (Fl 0), (Fl 0), (Iv 0), (Iv 0), (Iv 0), (.slice none 0 0)]) Try.isAgg31 Try.sizeOf31 (Blk.cells hB69) rfl) (slot rfl)) X71 ?_
    try simp only [h2, h4, h6, h8, hβ1, hβ2, hβ3, hβ4] at c66
    have x72 : (crpOk A_g L_fr L_ct) = false := by first | exact crpOk_f hcf | (rw [crpR_f hcf] <;> (show _ = _; dsimp only [zG, zV])) | (rw [crpOk_t hca, crpG_end hca (by assumption) (by omega)] <;> assumption) | (rw [crpR_t hca, crpG_end hca (z := z) (by assumption) (by omega), ‹isGrid (GridT.mk _ _ _ _ _ _) = false›] <;> rfl) | (rw [crpR_t hca, crpG_end hca (z := z) (by assumption) (by omega), ‹isGrid (GridT.mk _ _ _ _ _ _) = true›, gvA_t] <;> first | rfl | assumption | (simp only [h2, h4, h6, h8, hβ1, hβ2, hβ3, hβ4, c66]; done)) | (rw [crpOk_t hca] <;> first | assumption | rfl) | (rw [crpR_t hca] <;> first | rfl | assumption) | (rw [crpOk_t hca]; simp only [h2, h4, h6, h8, hβ1, hβ2, hβ3, hβ4, c66]; rfl) | (rw [crpR_t hca]; simp only [h2, h4, h6, h8, hβ1, hβ2, hβ3, hβ4, c66]; rfl)
    have x73 : cf .f32 0 = (crpR A_g L_fr L_ct).low.x := by first | exact crpOk_f hcf | (rw [crpR_f hcf] <;> (show _ = _; dsimp only [zG, zV])) | (rw [crpOk_t hca, crpG_end hca (by assumption) (by omega)] <;> assumption) | (rw [crpR_t hca, crpG_end hca (z := z) (by assumption) (by omega), ‹isGrid (GridT.mk _ _ _ _ _ _) = false›] <;> rfl) | (rw [crpR_t hca, crpG_end hca (z := z) (by assumption) (by omega), ‹isGrid (GridT.mk _ _ _ _ _ _) = true›, gvA_t] <;> first | rfl | assumption | (simp only [h2, h4, h6, h8, hβ1, hβ2, hβ3, hβ4, c66]; done)) | (rw [crpOk_t hca] <;> first | assumption | rfl) | (rw [crpR_t hca] <;> first | rfl | assumption) | (rw [crpOk_t hca]; simp only [h2, h4, h6, h8, hβ1, hβ2, hβ3, hβ4, c66]; rfl) | (rw [crpR_t hca]; simp only [h2, h4, h6, h8, hβ1, hβ2, hβ3, hβ4, c66]; rfl)
    have x74 : cf .f32 0 = (crpR A_g L_fr L_ct).low.y := by first | exact crpOk_f hcf | (rw [crpR_f hcf] <;> (show _ = _; dsimp only [zG, zV])) | (rw [crpOk_t hca, crpG_end hca (by assumption) (by omega)] <;> assumption) | (rw [crpR_t hca, crpG_end hca (z := z) (by assumption) (by omega), ‹isGrid (GridT.mk _ _ _ _ _ _) = false›] <;> rfl) | (rw [crpR_t hca, crpG_end hca (z := z) (by assumption) (by omega), ‹isGrid (GridT.mk _ _ _ _ _ _) = true›, gvA_t] <;> first | rfl | assumption | (simp only [h2, h4, h6, h8, hβ1, hβ2, hβ3, hβ4, c66]; done)) | (rw [crpOk_t hca] <;> first | assumption | rfl) | (rw [crpR_t hca] <;> first | rfl | assumption) | (rw [crpOk_t hca]; simp only [h2, h4, h6, h8, hβ1, hβ2, hβ3, hβ4, c66]; rfl) | (rw [crpR_t hca]; simp only [h2, h4, h6, h8, hβ1, hβ2, hβ3, hβ4, c66]; rfl)
    have x75 : cf .f32 0 = (crpR A_g L_fr L_ct).low.z := by first | exact crpOk_f hcf | (rw [crpR_f hcf] <;> (show _ = _; dsimp only [zG, zV])) | (rw [crpOk_t hca, crpG_end hca (by assumption) (by omega)] <;> assumption) | (rw [crpR_t hca, crpG_end hca (z := z) (by assumption) (by omega), ‹isGrid (GridT.mk _ _ _ _ _ _) = false›] <;> rfl) | (rw [crpR_t hca, crpG_end hca (z := z) (by assumption) (by omega), ‹isGrid (GridT.mk _ _ _ _ _ _) = true›, gvA_t] <;> first | rfl | assumption | (simp only [h2, h4, h6, h8, hβ1, hβ2, hβ3, hβ4, c66]; done)) | (rw [crpOk_t hca] <;> first | assumption | rfl) | (rw [crpR_t hca] <;> first | rfl | assumption) | (rw [crpOk_t hca]; simp only [h2, h4, h6, h8, hβ1, hβ2, hβ3, hβ4, c66]; rfl) | (rw [crpR_t hca]; simp only [h2, h4, h6, h8, hβ1, hβ2, hβ3, hβ4, c66]; rfl)
    have x76 : cf .f32 0 = (crpR A_g L_fr L_ct).step := by first | exact crpOk_f hcf | (rw [crpR_f hcf] <;> (show _ = _; dsimp only [zG, zV])) | (rw [crpOk_t hca, crpG_end hca (by assumption) (by omega)] <;> assumption) | (rw [crpR_t hca, crpG_end hca (z := z) (by assumption) (by omega), ‹isGrid (GridT.mk _ _ _ _ _ _) = false›] <;> rfl) | (rw [crpR_t hca, crpG_end hca (z := z) (by assumption) (by omega), ‹isGrid (GridT.mk _ _ _ _ _ _) = true›, gvA_t] <;> first | rfl | assumption | (simp only [h2, h4, h6, h8, hβ1, hβ2, hβ3, hβ4, c66]; done)) | (rw [crpOk_t hca] <;> first | assumption | rfl) | (rw [crpR_t hca] <;> first | rfl | assumption) | (rw [crpOk_t hca]; simp only [h2, h4, h6, h8, hβ1, hβ2, hβ3, hβ4, c66]; rfl) | (rw [crpR_t hca]; simp only [h2, h4, h6, h8, hβ1, hβ2, hβ3, hβ4, c66]; rfl)
    have x77 : (crpR A_g L_fr L_ct).x = 0 := by first | exact crpOk_f hcf | (rw [crpR_f hcf] <;> (show _ = _; dsimp only [zG, zV])) | (rw [crpOk_t hca, crpG_end hca (by assumption) (by omega)] <;> assumption) | (rw [crpR_t hca, crpG_end hca (z := z) (by assumption) (by omega), ‹isGrid (GridT.mk _ _ _ _ _ _) = false›] <;> rfl) | (rw [crpR_t hca, crpG_end hca (z := z) (by assumption) (by omega), ‹isGrid (GridT.mk _ _ _ _ _ _) = true›, gvA_t] <;> first | rfl | assumption | (simp only [h2, h4, h6, h8, hβ1, hβ2, hβ3, hβ4, c66]; done)) | (rw [crpOk_t hca] <;> first | assumption | rfl) | (rw [crpR_t hca] <;> first | rfl | assumption) | (rw [crpOk_t hca]; simp only [h2, h4, h6, h8, hβ1, hβ2, hβ3, hβ4, c66]; rfl) | (rw [crpR_t hca]; simp only [h2, h4, h6, h8, hβ1, hβ2, hβ3, hβ4, c66]; rfl)
    have x78 : (crpR A_g L_fr L_ct).y = 0 := by first | exact crpOk_f hcf | (rw [crpR_f hcf] <;> (show _ = _; dsimp only [zG, zV])) | (rw [crpOk_t hca, crpG_end hca (by assumption) (by omega)] <;> assumption) | (rw [crpR_t hca, crpG_end hca (z := z) (by assumption) (by omega), ‹isGrid (GridT.mk _ _ _ _ _ _) = false›] <;> rfl) | (rw [crpR_t hca, crpG_end hca (z := z) (by assumption) (by omega), ‹isGrid (GridT.mk _ _ _ _ _ _) = true›, gvA_t] <;> first | rfl | assumption | (simp only [h2, h4, h6, h8, hβ1, hβ2, hβ3, hβ4, c66]; done)) | (rw [crpOk_t hca] <;> first | assumption | rfl) | (rw [crpR_t hca] <;> first | rfl | assumption) | (rw [crpOk_t hca]; simp only [h2, h4, h6, h8, hβ1, hβ2, hβ3, hβ4, c66]; rfl) | (rw [crpR_t hca]; simp only [h2, h4, h6, h8, hβ1, hβ2, hβ3, hβ4, c66]; rfl)
    have x79 : (crpR A_g L_fr L_ct).z = 0 := by first | exact crpOk_f hcf | (rw [crpR_f hcf] <;> (show _ = _; dsimp only [zG, zV])) | (rw [crpOk_t hca, crpG_end hca (by assumption) (by omega)] <;> assumption) | (rw [crpR_t hca, crpG_end hca (z := z) (by assumption) (by omega), ‹isGrid (GridT.mk _ _ _ _ _ _) = false›] <;> rfl) | (rw [crpR_t hca, crpG_end hca (z := z) (by assumption) (by omega), ‹isGrid (GridT.mk _ _ _ _ _ _) = true›, gvA_t] <;> first | rfl | assumption | (simp only [h2, h4, h6, h8, hβ1, hβ2, hβ3, hβ4, c66]; done)) | (rw [crpOk_t hca] <;> first | assumption | rfl) | (rw [crpR_t hca] <;> first | rfl | assumption) | (rw [crpOk_t hca]; simp only [h2, h4, h6, h8, hβ1, hβ2, hβ3, hβ4, c66]; rfl) | (rw [crpR_t hca]; simp only [h2, h4, h6, h8, hβ1, hβ2, hβ3, hβ4, c66]; rfl)
    have x80 : ([]) = ((crpR A_g L_fr L_ct).vals) := by first | exact crpOk_f hcf | (rw [crpR_f hcf] <;> (show _ = _; dsimp only [zG, zV])) | (rw [crpOk_t hca, crpG_end hca (by assumption) (by omega)] <;> assumption) | (rw [crpR_t hca, crpG_end hca (z := z) (by assumption) (by omega), ‹isGrid (GridT.mk _ _ _ _ _ _) = false›] <;> rfl) | (rw [crpR_t hca, crpG_end hca (z := z) (by assumption) (by omega), ‹isGrid (GridT.mk _ _ _ _ _ _) = true›, gvA_t] <;> first | rfl | assumption | (simp only [h2, h4, h6, h8, hβ1, hβ2, hβ3, hβ4, c66]; done)) | (rw [crpOk_t hca] <;> first | assumption | rfl) | (rw [crpR_t hca] <;> first | rfl | assumption) | (rw [crpOk_t hca]; simp only [h2, h4, h6, h8, hβ1, hβ2, hβ3, hβ4, c66]; rfl) | (rw [crpR_t hca]; simp only [h2, h4, h6, h8, hβ1, hβ2, hβ3, hβ4, c66]; rfl)
    exact ⟨[(Fl 0), (Fl 0), (Fl 0), (Fl 0), (Iv 0), (Iv 0), (Iv 0), (.slice none 0 0)], (by first | rfl | rw [x72]), fun u hu => ⟨0, 0, 0, 0, (.slice none 0 0), (by first | with_reducible rfl | (show _ = _; simp only [x77, x78, x79]) | rfl), x73, x74, x75, x76, (Hang.castL (Sl.hang_nil _ _ _ _) x80) u hu⟩⟩
  have c66' := c66
  (try simp only [hβ1, hβ2, hβ3, hβ4] at c66')
  (try simp only [icmp, Bool.and_eq_true, Bool.or_eq_true, Bool.and_eq_false_iff, Bool.or_eq_false_iff, Bool.not_eq_true', Bool.not_eq_false', decide_eq_true_eq, decide_eq_false_iff_not, beq_iff_eq, bne_iff_ne, beq_eq_false_iff_ne, bne_eq_false_iff_eq] at c66')
  refine wp_skip (hK30 _ _ ?_)
  refine wp_seq_k fun K81 hK81 => ?_
  refine wp_seq_k fun K82 hK82 => ?_
  obtain ⟨β5, hβ5⟩ : ∃ b : Bool, b = (inI (nth L_ct 0) 1 (IntKind.i64.wrap (A_g.x - (nth L_fr 0)))) := ⟨_, rfl⟩
  obtain ⟨β6, hβ6⟩ : ∃ b : Bool, b = (inI (nth L_ct 1) 1 (IntKind.i64.wrap (A_g.y - (nth L_fr 1)))) := ⟨_, rfl⟩
  obtain ⟨β7, hβ7⟩ : ∃ b : Bool, b = (inI (nth L_ct 2) 1 (IntKind.i64.wrap (A_g.z - (nth L_fr 2)))) := ⟨_, rfl⟩
  obtain ⟨β8, hβ8⟩ : ∃ b : Bool, b = (((!β5) || (!β6)) || (!β7)) := ⟨_, rfl⟩
  refine region_draw (
    [Fact.pure [] (fun v => v = (.slice p_ct L_ct.length q_ct)),
    Fact.mem [38] (fun v w' => PtrR RI w' v (nth L_ct 0)) (by intro v w1 w2 hx h; exact h.ext RI.mono hx),
    Fact.pure [39] (fun v => v = (Iv (nth L_ct 0))),
    Fact.pure [] (fun v => v = (Pt b15 4)),
    Fact.pure [41] (fun v => v = (Iv A_g.x)),
    Fact.pure [] (fun v => v = (.slice p_fr L_fr.length q_fr)),
    Fact.mem [43] (fun v w' => PtrR RI w' v (nth L_fr 0)) (by intro v w1 w2 hx h; exact h.ext RI.mono hx),
    Fact.pure [44] (fun v => v = (Iv (nth L_fr 0))),
    Fact.pure [42, 45] (fun v => v = (Iv (IntKind.i64.wrap (A_g.x - (nth L_fr 0))))),
    Fact.pure [40, 46] (fun v => v = (Bo β5)),
    Fact.pure [47] (fun v => v = (Bo (!β5))),
    Fact.pure [48] (fun v => v = (Bo (!β5))),
    Fact.pure [49] (fun v => (!β5) = false → v = (.slice p_ct L_ct.length q_ct)),
    Fact.mem [50, 49] (fun v w' => (!β5) = false → PtrR RI w' v (nth L_ct 1)) (by intro v w1 w2 hx h; exact fun hg1 => (h hg1).ext RI.mono hx),
    Fact.pure [51, 49] (fun v => (!β5) = false → v = (Iv (nth L_ct 1))),
    Fact.pure [49] (fun v => (!β5) = false → v = (Pt b15 5)),
    Fact.pure [53, 49] (fun v => (!β5) = false → v = (Iv A_g.y)),
    Fact.pure [49] (fun v => (!β5) = false → v = (.slice p_fr L_fr.length q_fr)),
    Fact.mem [55, 49] (fun v w' => (!β5) = false → PtrR RI w' v (nth L_fr 1)) (by intro v w1 w2 hx h; exact fun hg1 => (h hg1).ext RI.mono hx),
    Fact.pure [56, 49] (fun v => (!β5) = false → v = (Iv (nth L_fr 1))),
    Fact.pure [54, 57, 49] (fun v => (!β5) = false → v = (Iv (IntKind.i64.wrap (A_g.y - (nth L_fr 1))))),
    Fact.pure [52, 58, 49] (fun v => (!β5) = false → v = (Bo β6)),
    Fact.pure [59, 49] (fun v => (!β5) = false → v = (Bo (!β6))),
    Fact.pure [49, 60] (fun v => v = (Bo ((!β5) || (!β6)))),
    Fact.pure [61] (fun v => v = (Bo ((!β5) || (!β6)))),
    Fact.pure [62] (fun v => ((!β5) || (!β6)) = false → v = (.slice p_ct L_ct.length q_ct)),
    Fact.mem [63, 62] (fun v w' => ((!β5) || (!β6)) = false → PtrR RI w' v (nth L_ct 2)) (by intro v w1 w2 hx h; exact fun hg1 => (h hg1).ext RI.mono hx),
    Fact.pure [64, 62] (fun v => ((!β5) || (!β6)) = false → v = (Iv (nth L_ct 2))),
    Fact.pure [62] (fun v => ((!β5) || (!β6)) = false → v = (Pt b15 6)),
    Fact.pure [66, 62] (fun v => ((!β5) || (!β6)) = false → v = (Iv A_g.z)),
    Fact.pure [62] (fun v => ((!β5) || (!β6)) = false → v = (.slice p_fr L_fr.length q_fr)),
    Fact.mem [68, 62] (fun v w' => ((!β5) || (!β6)) = false → PtrR RI w' v (nth L_fr 2)) (by intro v w1 w2 hx h; exact fun hg1 => (h hg1).ext RI.mono hx),
    Fact.pure [69, 62] (fun v => ((!β5) || (!β6)) = false → v = (Iv (nth L_fr 2))),
    Fact.pure [67, 70, 62] (fun v => ((!β5) || (!β6)) = false → v = (Iv (IntKind.i64.wrap (A_g.z - (nth L_fr 2))))),
    Fact.pure [65, 71, 62] (fun v => ((!β5) || (!β6)) = false → v = (Bo β7)),
    Fact.pure [72, 62] (fun v => ((!β5) || (!β6)) = false → v = (Bo (!β7))),
    Fact.pure [62, 73] (fun v => v = (Bo β8))]) mixed (by kernel_rfl) (by intro _ _ d _ _ h; cases d <;> exact h) ?_
  obtain ⟨w83, hw85⟩ : ∃ w', w' = World.drew w61 := ⟨_, rfl⟩; rw [← hw85]; have E84 : Ext w61 w83 := by rw [hw85]; exact Ext.draw _
  clear hw85
  have X86 := Ext.gr X65 E84
  refine RW_d _ rfl (fun v => by dsimp only [List.set]; try rfl) (fun u hu hF => ?_) (fun v87 => ?_)
  · clear hF
    refine doesG_un rfl ?_
    refine (does_move (u := (.slice p_ct L_ct.length q_ct)) (ev rfl)).mono ?_; rintro _ _ ⟨rfl, rfl⟩
    exact ⟨rfl, Ext.refl _⟩
  refine RW_d _ rfl (fun v => by dsimp only [List.set]; try rfl) (fun u hu hF => ?_) (fun v88 => ?_)
  · have h38_ : v87 = (.slice p_ct L_ct.length q_ct) := hF.1
    clear hF
    refine doesG_un rfl ?_
    obtain rfl := h38_
    refine (does_indexSl (R := RI) (i := 0) (xs := L_ct) (e := (nth L_ct 0)) Try.underlying38 Try.sizeOf2 (ev rfl) (ev rfl) (Sl.ext (Sl.ext hv_ct RI.mono (Ext.gr X65 E84)) RI.mono hu) (by omega) (nth_some (by first | omega | (simp only [icmp, Bool.or_eq_false_iff, Bool.not_eq_false', Bool.not_eq_true', bne_eq_false_iff_eq] at hg1; omega)))).mono ?_; rintro v u' ⟨b, of, cs, hv, hc, hR, hu'⟩; subst hu'
    exact ⟨⟨b, of, cs, hv, hc, hR⟩, Ext.refl _⟩
  refine RW_d _ rfl (fun v => by dsimp only [List.set]; try rfl) (fun u hu hF => ?_) (fun v89 => ?_)
  · have h39_ : PtrR RI u v88 (nth L_ct 0) := hF.1
    clear hF
    refine doesG_un rfl ?_
    obtain ⟨b39_, o39_, _, rfl, hc39_, rfl⟩ := h39_
    refine (does_load (u := (Iv (nth L_ct 0))) (ev rfl) Try.isAgg2 (Cells.at hc39_ 0 rfl)).mono ?_; rintro _ _ ⟨rfl, rfl⟩
    exact ⟨rfl, Ext.refl _⟩
  refine RW_d _ rfl (fun v => by dsimp only [List.set]; try rfl) (fun u hu hF => ?_) (fun v90 => ?_)
  · clear hF
    refine doesG_un rfl ?_
    refine (does_fieldAddr (ev rfl) fa31_2).mono ?_; rintro _ _ ⟨rfl, rfl⟩
    exact ⟨rfl, Ext.refl _⟩
  refine RW_d _ rfl (fun v => by dsimp only [List.set]; try rfl) (fun u hu hF => ?_) (fun v91 => ?_)
  · have h41_ : v90 = (Pt b15 4) := hF.1
    clear hF
    refine doesG_un rfl ?_
    obtain rfl := h41_
    refine (does_load (u := (Iv A_g.x)) (ev rfl) Try.isAgg2 (Cells.at (Blk.cells (((((hB17.ext E25).ext E33).ext E62).ext E84).ext hu)) 4 rfl)).mono ?_; rintro _ _ ⟨rfl, rfl⟩
    exact ⟨rfl, Ext.refl _⟩
  refine RW_d _ rfl (fun v => by dsimp only [List.set]; try rfl) (fun u hu hF => ?_) (fun v92 => ?_)
  · clear hF
    refine doesG_un rfl ?_
    refine (does_move (u := (.slice p_fr L_fr.length q_fr)) (ev rfl)).mono ?_; rintro _ _ ⟨rfl, rfl⟩
    exact ⟨rfl, Ext.refl _⟩
  refine RW_d _ rfl (fun v => by dsimp only [List.set]; try rfl) (fun u hu hF => ?_) (fun v93 => ?_)
  · have h43_ : v92 = (.slice p_fr L_fr.length q_fr) := hF.1
    clear hF
    refine doesG_un rfl ?_
    obtain rfl := h43_
    refine (does_indexSl (R := RI) (i := 0) (xs := L_fr) (e := (nth L_fr 0)) Try.underlying38 Try.sizeOf2 (ev rfl) (ev rfl) (Sl.ext (Sl.ext hv_fr RI.mono (Ext.gr X65 E84)) RI.mono hu) (by omega) (nth_some (by first | omega | (simp only [icmp, Bool.or_eq_false_iff, Bool.not_eq_false', Bool.not_eq_true', bne_eq_false_iff_eq] at hg1; omega)))).mono ?_; rintro v u' ⟨b, of, cs, hv, hc, hR, hu'⟩; subst hu'
    exact ⟨⟨b, of, cs, hv, hc, hR⟩, Ext.refl _⟩
  refine RW_d _ rfl (fun v => by dsimp only [List.set]; try rfl) (fun u hu hF => ?_) (fun v94 => ?_)
  · have h44_ : PtrR RI u v93 (nth L_fr 0) := hF.1
    clear hF
    refine doesG_un rfl ?_
    obtain ⟨b44_, o44_, _, rfl, hc44_, rfl⟩ := h44_
    refine (does_load (u := (Iv (nth L_fr 0))) (ev rfl) Try.isAgg2 (Cells.at hc44_ 0 rfl)).mono ?_; rintro _ _ ⟨rfl, rfl⟩
    exact ⟨rfl, Ext.refl _⟩
  refine RW_d _ rfl (fun v => by dsimp only [List.set]; try rfl) (fun u hu hF => ?_) (fun v95 => ?_)
  · have h42_ : v91 = (Iv A_g.x) := hF.1
    have h45_ : v94 = (Iv (nth L_fr 0)) := hF.2.1
    clear hF
    refine doesG_un rfl ?_
    obtain rfl := h42_
    obtain rfl := h45_
    refine (does_iarith (p := A_g.x) (q := (nth L_fr 0)) (r := IntKind.i64.wrap (A_g.x - (nth L_fr 0))) (ev rfl) (ev rfl) (.inr (.inl ⟨rfl, rfl⟩))).mono ?_; rintro _ _ ⟨rfl, rfl⟩
    exact ⟨rfl, Ext.refl _⟩
  refine RW_d _ rfl (fun v => by dsimp only [List.set]; try rfl) (fun u hu hF => ?_) (fun v96 => ?_)
  · have h40_ : v89 = (Iv (nth L_ct 0)) := hF.1
    have h46_ : v95 = (Iv (IntKind.i64.wrap (A_g.x - (nth L_fr 0)))) := hF.2.1
    clear hF
    refine doesG_un rfl ?_
    obtain rfl := h40_
    obtain rfl := h46_
    refine (does_call (args := #[(Iv (nth L_ct 0)), (Iv 1), (Iv (IntKind.i64.wrap (A_g.x - (nth L_fr 0))))]) cal37 (evs rfl) (c_spec_l00In (nth L_ct 0) 1 (IntKind.i64.wrap (A_g.x - (nth L_fr 0))) _)).mono ?_; rintro v u' ⟨hx, hv⟩
    exact ⟨hv.trans (by simp only [hβ5]), hx⟩
  refine RW_d _ rfl (fun v => by dsimp only [List.set]; try rfl) (fun u hu hF => ?_) (fun v97 => ?_)
  · have h47_ : v96 = (Bo β5) := hF.1
    clear hF
    refine doesG_un rfl ?_
    obtain rfl := h47_
    refine (does_not (ev rfl)).mono ?_; rintro _ _ ⟨rfl, rfl⟩
    exact ⟨rfl, Ext.refl _⟩
  refine RW_d _ rfl (fun v => by dsimp only [List.set]; try rfl) (fun u hu hF => ?_) (fun v98 => ?_)
  · have h48_ : v97 = (Bo (!β5)) := hF.1
    clear hF
    refine doesG_un rfl ?_
    obtain rfl := h48_
    refine (does_move (u := (Bo (!β5))) (ev rfl)).mono ?_; rintro _ _ ⟨rfl, rfl⟩
    exact ⟨rfl, Ext.refl _⟩
  refine RW_d _ rfl (fun v => by dsimp only [List.set]; try rfl) (fun u hu hF => ?_) (fun v99 => ?_)
  · have h49_ : v98 = (Bo (!β5)) := hF.1
    clear hF
    obtain rfl := h49_
    refine doesG_g (b := (!β5)) rfl (yld rfl rfl) (fun hg1 => ?_) (fun hc => ⟨fun hg1 => absurd hg1 hc, Ext.refl _⟩)
    refine (does_move (u := (.slice p_ct L_ct.length q_ct)) (ev rfl)).mono ?_; rintro _ _ ⟨rfl, rfl⟩
    exact ⟨fun _ => rfl, Ext.refl _⟩
  refine RW_d _ rfl (fun v => by dsimp only [List.set]; try rfl) (fun u hu hF => ?_) (fun v100 => ?_)
  · have h50_ : (!β5) = false → v99 = (.slice p_ct L_ct.length q_ct) := hF.1
    have h49_ : v98 = (Bo (!β5)) := hF.2.1
    clear hF
    obtain rfl := h49_
    refine doesG_g (b := (!β5)) rfl (yld rfl rfl) (fun hg1 => ?_) (fun hc => ⟨fun hg1 => absurd hg1 hc, Ext.refl _⟩)
    obtain rfl := h50_ hg1
    refine (does_indexSl (R := RI) (i := 1) (xs := L_ct) (e := (nth L_ct 1)) Try.underlying38 Try.sizeOf2 (ev rfl) (ev rfl) (Sl.ext (Sl.ext hv_ct RI.mono (Ext.gr X65 E84)) RI.mono hu) (by omega) (nth_some (by first | omega | (simp only [hβ5, icmp, Bool.or_eq_false_iff, Bool.not_eq_false', Bool.not_eq_true', bne_eq_false_iff_eq] at hg1; omega)))).mono ?_; rintro v u' ⟨b, of, cs, hv, hc, hR, hu'⟩; subst hu'
    exact ⟨fun _ => ⟨b, of, cs, hv, hc, hR⟩, Ext.refl _⟩
  refine RW_d _ rfl (fun v => by dsimp only [List.set]; try rfl) (fun u hu hF => ?_) (fun v101 => ?_)
  · have h51_ : (!β5) = false → PtrR RI u v100 (nth L_ct 1) := hF.1
    have h49_ : v98 = (Bo (!β5)) := hF.2.1
    clear hF
    obtain rfl := h49_
    refine doesG_g (b := (!β5)) rfl (yld rfl rfl) (fun hg1 => ?_) (fun hc => ⟨fun hg1 => absurd hg1 hc, Ext.refl _⟩)
    obtain ⟨b51_, o51_, _, rfl, hc51_, rfl⟩ := h51_ hg1
    refine (does_load (u := (Iv (nth L_ct 1))) (ev rfl) Try.isAgg2 (Cells.at hc51_ 0 rfl)).mono ?_; rintro _ _ ⟨rfl, rfl⟩
    exact ⟨fun _ => rfl, Ext.refl _⟩
  refine RW_d _ rfl (fun v => by dsimp only [List.set]; try rfl) (fun u hu hF => ?_) (fun v102 => ?_)
  · have h49_ : v98 = (Bo (!β5)) := hF.1
    clear hF
    obtain rfl := h49_
    refine doesG_g (b := (!β5)) rfl (yld rfl rfl) (fun hg1 => ?_) (fun hc => ⟨fun hg1 => absurd hg1 hc, Ext.refl _⟩)
    refine (does_fieldAddr (ev rfl) fa31_3).mono ?_; rintro _ _ ⟨rfl, rfl⟩
    exact ⟨fun _ => rfl, Ext.refl _⟩
  refine RW_d _ rfl (fun v => by dsimp only [List.set]; try rfl) (fun u hu hF => ?_) (fun v103 => ?_)
  · have h53_ : (!β5) = false → v102 = (Pt b15 5) := hF.1
    have h49_ : v98 = (Bo (!β5)) := hF.2.1
    clear hF
    obtain rfl := h49_
    refine doesG_g (b := (!β5)) rfl (yld rfl rfl) (fun hg1 => ?_) (fun hc => ⟨fun hg1 => absurd hg1 hc, Ext.refl _⟩)
    obtain rfl := h53_ hg1
    refine (does_load (u := (Iv A_g.y)) (ev rfl) Try.isAgg2 (Cells.at (Blk.cells (((((hB17.ext E25).ext E33).ext E62).ext E84).ext hu)) 5 rfl)).mono ?_; rintro _ _ ⟨rfl, rfl⟩
    exact ⟨fun _ => rfl, Ext.refl _⟩
  refine RW_d _ rfl (fun v => by dsimp only [List.set]; try rfl) (fun u hu hF => ?_) (fun v104 => ?_)
  · have h49_ : v98 = (Bo (!β5)) := hF.1
    clear hF
    obtain rfl := h49_
    refine doesG_g (b := (!β5)) rfl (yld rfl rfl) (fun hg1 => ?_) (fun hc => ⟨fun hg1 => absurd hg1 hc, Ext.refl _⟩)
    refine (does_move (u := (.slice p_fr L_fr.length q_fr)) (ev rfl)).mono ?_; rintro _ _ ⟨rfl, rfl⟩
    exact ⟨fun _ => rfl, Ext.refl _⟩
  refine RW_d _ rfl (fun v => by dsimp only [List.set]; try rfl) (fun u hu hF => ?_) (fun v105 => ?_)
  · have h55_ : (!β5) = false → v104 = (.slice p_fr L_fr.length q_fr) := hF.1
    have h49_ : v98 = (Bo (!β5)) := hF.2.1
    clear hF
    obtain rfl := h49_
    refine doesG_g (b := (!β5)) rfl (yld rfl rfl) (fun hg1 => ?_) (fun hc => ⟨fun hg1 => absurd hg1 hc, Ext.refl _⟩)
    obtain rfl := h55_ hg1
    refine (does_indexSl (R := RI) (i := 1) (xs := L_fr) (e := (nth L_fr 1)) Try.underlying38 Try.sizeOf2 (ev rfl) (ev rfl) (Sl.ext (Sl.ext hv_fr RI.mono (Ext.gr X65 E84)) RI.mono hu) (by omega) (nth_some (by first | omega | (simp only [hβ5, icmp, Bool.or_eq_false_iff, Bool.not_eq_false', Bool.not_eq_true', bne_eq_false_iff_eq] at hg1; omega)))).mono ?_; rintro v u' ⟨b, of, cs, hv, hc, hR, hu'⟩; subst hu'
    exact ⟨fun _ => ⟨b, of, cs, hv, hc, hR⟩, Ext.refl _⟩
  refine RW_d _ rfl (fun v => by dsimp only [List.set]; try rfl) (fun u hu hF => ?_) (fun v106 => ?_)
  · have h56_ : (!β5) = false → PtrR RI u v105 (nth L_fr 1) := hF.1
    have h49_ : v98 = (Bo (!β5)) := hF.2.1
    clear hF
    obtain rfl := h49_
    refine doesG_g (b := (!β5)) rfl (yld rfl rfl) (fun hg1 => ?_) (fun hc => ⟨fun hg1 => absurd hg1 hc, Ext.refl _⟩)
    obtain ⟨b56_, o56_, _, rfl, hc56_, rfl⟩ := h56_ hg1
    refine (does_load (u := (Iv (nth L_fr 1))) (ev rfl) Try.isAgg2 (Cells.at hc56_ 0 rfl)).mono ?_; rintro _ _ ⟨rfl, rfl⟩
    exact ⟨fun _ => rfl, Ext.refl _⟩
  refine RW_d _ rfl (fun v => by dsimp only [List.set]; try rfl) (fun u hu hF => ?_) (fun v107 => ?_)
  · have h54_ : (!β5) = false → v103 = (Iv A_g.y) := hF.1
    have h57_ : (!β5) = false → v106 = (Iv (nth L_fr 1)) := hF.2.1
    have h49_ : v98 = (Bo (!β5)) := hF.2.2.1
    clear hF
    obtain rfl := h49_
    refine doesG_g (b := (!β5)) rfl (yld rfl rfl) (fun hg1 => ?_) (fun hc => ⟨fun hg1 => absurd hg1 hc, Ext.refl _⟩)
    obtain rfl := h54_ hg1
    obtain rfl := h57_ hg1
    refine (does_iarith (p := A_g.y) (q := (nth L_fr 1)) (r := IntKind.i64.wrap (A_g.y - (nth L_fr 1))) (ev rfl) (ev rfl) (.inr (.inl ⟨rfl, rfl⟩))).mono ?_; rintro _ _ ⟨rfl, rfl⟩
    exact ⟨fun _ => rfl, Ext.refl _⟩
  refine RW_d _ rfl (fun v => by dsimp only [List.set]; try rfl) (fun u hu hF => ?_) (fun v108 => ?_)
  · have h52_ : (!β5) = false → v101 = (Iv (nth L_ct 1)) := hF.1
    have h58_ : (!β5) = false → v107 = (Iv (IntKind.i64.wrap (A_g.y - (nth L_fr 1)))) := hF.2.1
    have h49_ : v98 = (Bo (!β5)) := hF.2.2.1
    clear hF
    obtain rfl := h49_
    refine doesG_g (b := (!β5)) rfl (yld rfl rfl) (fun hg1 => ?_) (fun hc => ⟨fun hg1 => absurd hg1 hc, Ext.refl _⟩)
    obtain rfl := h52_ hg1
    obtain rfl := h58_ hg1
    refine (does_call (args := #[(Iv (nth L_ct 1)), (Iv 1), (Iv (IntKind.i64.wrap (A_g.y - (nth L_fr 1))))]) cal37 (evs rfl) (c_spec_l00In (nth L_ct 1) 1 (IntKind.i64.wrap (A_g.y - (nth L_fr 1))) _)).mono ?_; rintro v u' ⟨hx, hv⟩
    exact ⟨fun _ => hv.trans (by simp only [hβ6]), hx⟩
  refine RW_d _ rfl (fun v => by dsimp only [List.set]; try rfl) (fun u hu hF => ?_) (fun v109 => ?_)
  · have h59_ : (!β5) = false → v108 = (Bo β6) := hF.1
    have h49_ : v98 = (Bo (!β5)) := hF.2.1
    clear hF
    obtain rfl := h49_
    refine doesG_g (b := (!β5)) rfl (yld rfl rfl) (fun hg1 => ?_) (fun hc => ⟨fun hg1 => absurd hg1 hc, Ext.refl _⟩)
    obtain rfl := h59_ hg1
    refine (does_not (ev rfl)).mono ?_; rintro _ _ ⟨rfl, rfl⟩
    exact ⟨fun _ => rfl, Ext.refl _⟩
  refine RW_d _ rfl (fun v => by dsimp only [List.set]; try rfl) (fun u hu hF => ?_) (fun v110 => ?_)
  · have h49_ : v98 = (Bo (!β5)) := hF.1
    have h60_ : (!β5) = false → v109 = (Bo (!β6)) := hF.2.1
    clear hF
    refine doesG_un rfl ?_
    skip
    obtain rfl := h49_
    refine (does_pick (b := (!β5)) (ev rfl) (ev rfl) (ev rfl)).mono ?_; rintro _ _ ⟨rfl, rfl⟩; refine ⟨?_, Ext.refl _⟩; skip
    cases hbb : (!β5) <;> simp [hbb] at h60_ ⊢
    all_goals (first | rfl | (subst h60_; rfl) | simp_all)
  refine RW_d _ rfl (fun v => by dsimp only [List.set]; try rfl) (fun u hu hF => ?_) (fun v111 => ?_)
  · have h61_ : v110 = (Bo ((!β5) || (!β6))) := hF.1
    clear hF
    refine doesG_un rfl ?_
    obtain rfl := h61_
    refine (does_move (u := (Bo ((!β5) || (!β6)))) (ev rfl)).mono ?_; rintro _ _ ⟨rfl, rfl⟩
    exact ⟨rfl, Ext.refl _⟩
  refine RW_d _ rfl (fun v => by dsimp only [List.set]; try rfl) (fun u hu hF => ?_) (fun v112 => ?_)
  · have h62_ : v111 = (Bo ((!β5) || (!β6))) := hF.1
    clear hF
    obtain rfl := h62_
    refine doesG_g (b := ((!β5) || (!β6))) rfl (yld rfl rfl) (fun hg1 => ?_) (fun hc => ⟨fun hg1 => absurd hg1 hc, Ext.refl _⟩)
    refine (does_move (u := (.slice p_ct L_ct.length q_ct)) (ev rfl)).mono ?_; rintro _ _ ⟨rfl, rfl⟩
    exact ⟨fun _ => rfl, Ext.refl _⟩
  refine RW_d _ rfl (fun v => by dsimp only [List.set]; try rfl) (fun u hu hF => ?_) (fun v113 => ?_)
  · have h63_ : ((!β5) || (!β6)) = false → v112 = (.slice p_ct L_ct.length q_ct) := hF.1
    have h62_ : v111 = (Bo ((!β5) || (!β6))) := hF.2.1
    clear hF
    obtain rfl := h62_
    refine doesG_g (b := ((!β5) || (!β6))) rfl (yld rfl rfl) (fun hg1 => ?_) (fun hc => ⟨fun hg1 => absurd hg1 hc, Ext.refl _⟩)
    obtain rfl := h63_ hg1
    refine (does_indexSl (R := RI) (i := 2) (xs := L_ct) (e := (nth L_ct 2)) Try.underlying38 Try.sizeOf2 (ev rfl) (ev rfl) (Sl.ext (Sl.ext hv_ct RI.mono (Ext.gr X65 E84)) RI.mono hu) (by omega) (nth_some (by first | omega | (simp only [hβ5, hβ6, icmp, Bool.or_eq_false_iff, Bool.not_eq_false', Bool.not_eq_true', bne_eq_false_iff_eq] at hg1; omega)))).mono ?_; rintro v u' ⟨b, of, cs, hv, hc, hR, hu'⟩; subst hu'
    exact ⟨fun _ => ⟨b, of, cs, hv, hc, hR⟩, Ext.refl _⟩
  refine RW_d _ rfl (fun v => by dsimp only [List.set]; try rfl) (fun u hu hF => ?_) (fun v114 => ?_)
  · have h64_ : ((!β5) || (!β6)) = false → PtrR RI u v113 (nth L_ct 2) := hF.1
    have h62_ : v111 = (Bo ((!β5) || (!β6))) := hF.2.1
    clear hF
    obtain rfl := h62_
    refine doesG_g (b := ((!β5) || (!β6))) rfl (yld rfl rfl) (fun hg1 => ?_) (fun hc => ⟨fun hg1 => absurd hg1 hc, Ext.refl _⟩)
    obtain ⟨b64_, o64_, _, rfl, hc64_, rfl⟩ := h64_ hg1
    refine (does_load (u := (Iv (nth L_ct 2))) (ev rfl) Try.isAgg2 (Cells.at hc64_ 0 rfl)).mono ?_; rintro _ _ ⟨rfl, rfl⟩
    exact ⟨fun _ => rfl, Ext.refl _⟩
  refine RW_d _ rfl (fun v => by dsimp only [List.set]; try rfl) (fun u hu hF => ?_) (fun v115 => ?_)
  · have h62_ : v111 = (Bo ((!β5) || (!β6))) := hF.1
    clear hF
    obtain rfl := h62_
    refine doesG_g (b := ((!β5) || (!β6))) rfl (yld rfl rfl) (fun hg1 => ?_) (fun hc => ⟨fun hg1 => absurd hg1 hc, Ext.refl _⟩)
    refine (does_fieldAddr (ev rfl) fa31_4).mono ?_; rintro _ _ ⟨rfl, rfl⟩
    exact ⟨fun _ => rfl, Ext.refl _⟩
  refine RW_d _ rfl (fun v => by dsimp only [List.set]; try rfl) (fun u hu hF => ?_) (fun v116 => ?_)
  · have h66_ : ((!β5) || (!β6)) = false → v115 = (Pt b15 6) := hF.1
    have h62_ : v111 = (Bo ((!β5) || (!β6))) := hF.2.1
    clear hF
    obtain rfl := h62_
    refine doesG_g (b := ((!β5) || (!β6))) rfl (yld rfl rfl) (fun hg1 => ?_) (fun hc => ⟨fun hg1 => absurd hg1 hc, Ext.refl _⟩)
    obtain rfl := h66_ hg1
    refine (does_load (u := (Iv A_g.z)) (ev rfl) Try.isAgg2 (Cells.at (Blk.cells (((((hB17.ext E25).ext E33).ext E62).ext E84).ext hu)) 6 rfl)).mono ?_; rintro _ _ ⟨rfl, rfl⟩
    exact ⟨fun _ => rfl, Ext.refl _⟩
  refine RW_d _ rfl (fun v => by dsimp only [List.set]; try rfl) (fun u hu hF => ?_) (fun v117 => ?_)
  · have h62_ : v111 = (Bo ((!β5) || (!β6))) := hF.1
    clear hF
    obtain rfl := h62_
    refine doesG_g (b := ((!β5) || (!β6))) rfl (yld rfl rfl) (fun hg1 => ?_) (fun hc => ⟨fun hg1 => absurd hg1 hc, Ext.refl _⟩)
    refine (does_move (u := (.slice p_fr L_fr.length q_fr)) (ev rfl)).mono ?_; rintro _ _ ⟨rfl, rfl⟩
    exact ⟨fun _ => rfl, Ext.refl _⟩
  refine RW_d _ rfl (fun v => by dsimp only [List.set]; try rfl) (fun u hu hF => ?_) (fun v118 => ?_)
  · have h68_ : ((!β5) || (!β6)) = false → v117 = (.slice p_fr L_fr.length q_fr) := hF.1
    have h62_ : v111 = (Bo ((!β5) || (!β6))) := hF.2.1
    clear hF
    obtain rfl := h62_
    refine doesG_g (b := ((!β5) || (!β6))) rfl (yld rfl rfl) (fun hg1 => ?_) (fun hc => ⟨fun hg1 => absurd hg1 hc, Ext.refl _⟩)
    obtain rfl := h68_ hg1
    refine (does_indexSl (R := RI) (i := 2) (xs := L_fr) (e := (nth L_fr 2)) Try.underlying38 Try.sizeOf2 (ev rfl) (ev rfl) (Sl.ext (Sl.ext hv_fr RI.mono (Ext.gr X65 E84)) RI.mono hu) (by omega) (nth_some (by first | omega | (simp only [hβ5, hβ6, icmp, Bool.or_eq_false_iff, Bool.not_eq_false', Bool.not_eq_true', bne_eq_false_iff_eq] at hg1; omega)))).mono ?_; rintro v u' ⟨b, of, cs, hv, hc, hR, hu'⟩; subst hu'
    exact ⟨fun _ => ⟨b, of, cs, hv, hc, hR⟩, Ext.refl _⟩
  refine RW_d _ rfl (fun v => by dsimp only [List.set]; try rfl) (fun u hu hF => ?_) (fun v119 => ?_)
  · have h69_ : ((!β5) || (!β6)) = false → PtrR RI u v118 (nth L_fr 2) := hF.1
    have h62_ : v111 = (Bo ((!β5) || (!β6))) := hF.2.1
    clear hF
    obtain rfl := h62_
    refine doesG_g (b := ((!β5) || (!β6))) rfl (yld rfl rfl) (fun hg1 => ?_) (fun hc => ⟨fun hg1 => absurd hg1 hc, Ext.refl _⟩)
    obtain ⟨b69_, o69_, _, rfl, hc69_, rfl⟩ := h69_ hg1
    refine (does_load (u := (Iv (nth L_fr 2))) (ev rfl) Try.isAgg2 (Cells.at hc69_ 0 rfl)).mono ?_; rintro _ _ ⟨rfl, rfl⟩
    exact ⟨fun _ => rfl, Ext.refl _⟩
  refine RW_d _ rfl (fun v => by dsimp only [List.set]; try rfl) (fun u hu hF => ?_) (fun v120 => ?_)
  · have h67_ : ((!β5) || (!β6)) = false → v116 = (Iv A_g.z) := hF.1
    have h70_ : ((!β5) || (!β6)) = false → v119 = (Iv (nth L_fr 2)) := hF.2.1
    have h62_ : v111 = (Bo ((!β5) || (!β6))) := hF.2.2.1
    clear hF
    obtain rfl := h62_
    refine doesG_g (b := ((!β5) || (!β6))) rfl (yld rfl rfl) (fun hg1 => ?_) (fun hc => ⟨fun hg1 => absurd hg1 hc, Ext.refl _⟩)
    obtain rfl := h67_ hg1
    obtain rfl := h70_ hg1
    refine (does_iarith (p := A_g.z) (q := (nth L_fr 2)) (r := IntKind.i64.wrap (A_g.z - (nth L_fr 2))) (ev rfl) (ev rfl) (.inr (.inl ⟨rfl, rfl⟩))).mono ?_; rintro _ _ ⟨rfl, rfl⟩
    exact ⟨fun _ => rfl, Ext.refl _⟩
  refine RW_d _ rfl (fun v => by dsimp only [List.set]; try rfl) (fun u hu hF => ?_) (fun v121 => ?_)
  · have h65_ : ((!β5) || (!β6)) = false → v114 = (Iv (nth L_ct 2)) := hF.1
    have h71_ : ((!β5) || (!β6)) = false → v120 = (Iv (IntKind.i64.wrap (A_g.z - (nth L_fr 2)))) := hF.2.1
    have h62_ : v111 = (Bo ((!β5) || (!β6))) := hF.2.2.1
    clear hF
    obtain rfl := h62_
    refine doesG_g (b := ((!β5) || (!β6))) rfl (yld rfl rfl) (fun hg1 => ?_) (fun hc => ⟨fun hg1 => absurd hg1 hc, Ext.refl _⟩)
    obtain rfl := h65_ hg1
    obtain rfl := h71_ hg1
    refine (does_call (args := #[(Iv (nth L_ct 2)), (Iv 1), (Iv (IntKind.i64.wrap (A_g.z - (nth L_fr 2))))]) cal37 (evs rfl) (c_spec_l00In (nth L_ct 2) 1 (IntKind.i64.wrap (A_g.z - (nth L_fr 2))) _)).mono ?_; rintro v u' ⟨hx, hv⟩
    exact ⟨fun _ => hv.trans (by simp only [hβ7]), hx⟩
  refine RW_d _ rfl (fun v => by dsimp only [List.set]; try rfl) (fun u hu hF => ?_) (fun v122 => ?_)
  · have h72_ : ((!β5) || (!β6)) = false → v121 = (Bo β7) := hF.1
    have h62_ : v111 = (Bo ((!β5) || (!β6))) := hF.2.1
    clear hF
    obtain rfl := h62_
    refine doesG_g (b := ((!β5) || (!β6))) rfl (yld rfl rfl) (fun hg1 => ?_) (fun hc => ⟨fun hg1 => absurd hg1 hc, Ext.refl _⟩)
    obtain rfl := h72_ hg1
    refine (does_not (ev rfl)).mono ?_; rintro _ _ ⟨rfl, rfl⟩
    exact ⟨fun _ => rfl, Ext.refl _⟩
  refine RW_d _ rfl (fun v => by dsimp only [List.set]; try rfl) (fun u hu hF => ?_) (fun v123 => ?_)
  · have h62_ : v111 = (Bo ((!β5) || (!β6))) := hF.1
    have h73_ : ((!β5) || (!β6)) = false → v122 = (Bo (!β7)) := hF.2.1
    clear hF
    refine doesG_un rfl ?_
    skip
    obtain rfl := h62_
    refine (does_pick (b := ((!β5) || (!β6))) (ev rfl) (ev rfl) (ev rfl)).mono ?_; rintro _ _ ⟨rfl, rfl⟩; refine ⟨?_, Ext.refl _⟩; rw [hβ8]; skip
    cases hbb : ((!β5) || (!β6)) <;> simp [hbb] at h73_ ⊢
    all_goals (first | rfl | (subst h73_; rfl) | simp_all)
  refine RW_fin ?_; intro w124 E125 hP126
  obtain ⟨⟨⟨⟨⟨⟨⟨⟨⟨⟨⟨⟨⟨⟨⟨⟨⟨⟨⟨⟨⟨⟨⟨⟨⟨⟨⟨⟨⟨⟨⟨⟨⟨⟨⟨⟨⟨-, -⟩, -⟩, -⟩, -⟩, -⟩, -⟩, -⟩, -⟩, -⟩, -⟩, -⟩, -⟩, -⟩, -⟩, -⟩, -⟩, -⟩, -⟩, -⟩, -⟩, -⟩, -⟩, -⟩, -⟩, -⟩, -⟩, -⟩, -⟩, -⟩, -⟩, -⟩, -⟩, -⟩, -⟩, -⟩, -⟩, q127⟩ := hP126
  have X128 := Ext.gr X86 E125
  have q127 : v123 = (Bo β8) := q127
  obtain rfl := q127
  show wpList _ _ _ _ (fr [(.agg #[(Fl r1), (Fl r3), (Fl r5), (Fl r7), (Iv A_g.x), (Iv A_g.y), (Iv A_g.z), (.slice p11 A_g.vals.length q12)]), (.slice p_fr L_fr.length q_fr), (.slice p_ct L_ct.length q_ct), (Pt b15 0), Ud, Ud, (Pt b22 0), (Bo false), Ud, Ud, Ud, Ud, v36, v37, v38, v39, v40, v41, v42, v43, v44, v45, v46, v47, v48, v49, v50, v51, v52, v53, v54, v55, v56, v57, v58, v59, (Bo (β3 || (!β4))), Ud, v87, v88, v89, v90, v91, v92, v93, v94, v95, v96, v97, v98, v99, v100, v101, v102, v103, v104, v105, v106, v107, v108, v109, v110, v111, v112, v113, v114, v115, v116, v117, v118, v119, v120, v121, v122, (Bo β8), Ud, Ud, Ud, Ud, Ud, Ud, Ud, Ud, Ud, Ud, Ud, Ud, Ud, Ud, Ud, Ud, Ud, Ud, Ud, Ud, Ud, Ud, Ud, Ud, Ud, Ud, Ud, Ud, Ud, Ud, Ud, Ud, Ud, Ud, Ud, Ud, Ud, Ud, Ud, Ud, Ud, Ud, Ud, Ud, Ud, Ud, Ud, Ud, Ud, Ud, Ud, Ud, Ud, Ud, Ud, Ud, Ud, Ud, Ud, Ud, Ud, Ud, Ud, Ud, Ud, Ud, Ud, Ud, Ud, Ud, Ud, Ud, Ud, Ud, Ud]) _
  refine wpList_nil (hK82 _ _ ?_)
  refine wp_cond_split (t := β8) (ev rfl) (fun c129 => ?_) (fun c129 => ?_)
  · have c129' := c129
    (try simp only [hβ1, hβ2, hβ3, hβ4, hβ5, hβ6, hβ7, hβ8] at c129')
    (try simp only [icmp, Bool.and_eq_true, Bool.or_eq_true, Bool.and_eq_false_iff, Bool.or_eq_false_iff, Bool.not_eq_true', Bool.not_eq_false', decide_eq_true_eq, decide_eq_false_iff_not, beq_iff_eq, bne_iff_ne, beq_eq_false_iff_ne, bne_eq_false_iff_eq] at c129')
    have hcf := crpA_f2 (g := A_g) (fr := L_fr) (ct := L_ct) (by assumption)
    refine wp_seq_k fun K130 hK130 => ?_
    refine wp_region_lit ?_
    refine q_is rfl rfl (does_build (parts' := []) (cells := #[(Fl 0), (Fl 0), (Fl 0), (Fl 0), (Iv 0), (Iv 0), (Iv 0), (.slice none 0 0)]) (evp rfl) (by kernel_rfl)) (by dsimp only [List.set]; try rfl) ?_
    refine seqn rfl rfl (does_store (n := 8) (cs := [(Fl 0), (Fl 0), (Fl 0), (Fl 0), (Iv 0), (Iv 0), (Iv 0), (.slice none 0 0)]) (u := (.agg #[(Fl 0), (Fl 0), (Fl 0), (Fl 0), (Iv 0), (Iv 0), (Iv 0), (.slice none 0 0)])) (ev rfl) (ev rfl) Try.sizeOf31 rfl ((((hB24.ext E33).ext E62).ext E84).ext E125) (Nat.le_of_ble_eq_true rfl) rfl) ?_; rintro _ w133 ⟨rfl, W131, hB132⟩
    change Blk _ _ [(Fl 0), (Fl 0), (Fl 0), (Fl 0), (Iv 0), (Iv 0), (Iv 0), (.slice none 0 0)] at hB132
    have X134 := Below.wr X128 W131 g28
    refine q_is rfl rfl (does_assign (u := (Bo false)) (ev rfl)) (by dsimp only [List.set]; try rfl) ?_
    refine wpList_nil (hK130 _ _ ?_)
    refine wp_ret ?_
    dsimp only [Exit.then, Exit.inBlock]
    refine ret_val (v := (.tuple #[(.agg #[(Fl 0), (Fl 0), (Fl 0), (Fl 0), (Iv 0), (Iv 0), (Iv 0), (.slice none 0 0)]), (Bo false)])) (res_CT rfl (slot rfl) (run_loadAgg (cs := [(Fl 0), (Fl 0), (Fl 0), (Fl 0), (Iv 0), (Iv 0), (Iv 0), (.slice none 0 0)]) Try.isAgg31 Try.sizeOf31 (Blk.cells hB132) rfl) (slot rfl)) X134 ?_
    try simp only [h2, h4, h6, h8, hβ1, hβ2, hβ3, hβ4, hβ5, hβ6, hβ7, hβ8] at c66 c129
    have x135 : (crpOk A_g L_fr L_ct) = false := by first | exact crpOk_f hcf | (rw [crpR_f hcf] <;> (show _ = _; dsimp only [zG, zV])) | (rw [crpOk_t hca, crpG_end hca (by assumption) (by omega)] <;> assumption) | (rw [crpR_t hca, crpG_end hca (z := z) (by assumption) (by omega), ‹isGrid (GridT.mk _ _ _ _ _ _) = false›] <;> rfl) | (rw [crpR_t hca, crpG_end hca (z := z) (by assumption) (by omega), ‹isGrid (GridT.mk _ _ _ _ _ _) = true›, gvA_t] <;> first | rfl | assumption | (simp only [h2, h4, h6, h8, hβ1, hβ2, hβ3, hβ4, hβ5, hβ6, hβ7, hβ8, c66, c129]; done)) | (rw [crpOk_t hca] <;> first | assumption | rfl) | (rw [crpR_t hca] <;> first | rfl | assumption) | (rw [crpOk_t hca]; simp only [h2, h4, h6, h8, hβ1, hβ2, hβ3, hβ4, hβ5, hβ6, hβ7, hβ8, c66, c129]; rfl) | (rw [crpR_t hca]; simp only [h2, h4, h6, h8, hβ1, hβ2, hβ3, hβ4, hβ5, hβ6, hβ7, hβ8, c66, c129]; rfl)
    have x136 : cf .f32 0 = (crpR A_g L_fr L_ct).low.x := by first | exact crpOk_f hcf | (rw [crpR_f hcf] <;> (show _ = _; dsimp only [zG, zV])) | (rw [crpOk_t hca, crpG_end hca (by assumption) (by omega)] <;> assumption) | (rw [crpR_t hca, crpG_end hca (z := z) (by assumption) (by omega), ‹isGrid (GridT.mk _ _ _ _ _ _) = false›] <;> rfl) | (rw [crpR_t hca, crpG_end hca (z := z) (by assumption) (by omega), ‹isGrid (GridT.mk _ _ _ _ _ _) = true›, gvA_t] <;> first | rfl | assumption | (simp only [h2, h4, h6, h8, hβ1, hβ2, hβ3, hβ4, hβ5, hβ6, hβ7, hβ8, c66, c129]; done)) | (rw [crpOk_t hca] <;> first | assumption | rfl) | (rw [crpR_t hca] <;> first | rfl | assumption) | (rw [crpOk_t hca]; simp only [h2, h4, h6, h8, hβ1, hβ2, hβ3, hβ4, hβ5, hβ6, hβ7, hβ8, c66, c129]; rfl) | (rw [crpR_t hca]; simp only [h2, h4, h6, h8, hβ1, hβ2, hβ3, hβ4, hβ5, hβ6, hβ7, hβ8, c66, c129]; rfl)
    have x137 : cf .f32 0 = (crpR A_g L_fr L_ct).low.y := by first | exact crpOk_f hcf | (rw [crpR_f hcf] <;> (show _ = _; dsimp only [zG, zV])) | (rw [crpOk_t hca, crpG_end hca (by assumption) (by omega)] <;> assumption) | (rw [crpR_t hca, crpG_end hca (z := z) (by assumption) (by omega), ‹isGrid (GridT.mk _ _ _ _ _ _) = false›] <;> rfl) | (rw [crpR_t hca, crpG_end hca (z := z) (by assumption) (by omega), ‹isGrid (GridT.mk _ _ _ _ _ _) = true›, gvA_t] <;> first | rfl | assumption | (simp only [h2, h4, h6, h8, hβ1, hβ2, hβ3, hβ4, hβ5, hβ6, hβ7, hβ8, c66, c129]; done)) | (rw [crpOk_t hca] <;> first | assumption | rfl) | (rw [crpR_t hca] <;> first | rfl | assumption) | (rw [crpOk_t hca]; simp only [h2, h4, h6, h8, hβ1, hβ2, hβ3, hβ4, hβ5, hβ6, hβ7, hβ8, c66, c129]; rfl) | (rw [crpR_t hca]; simp only [h2, h4, h6, h8, hβ1, hβ2, hβ3, hβ4, hβ5, hβ6, hβ7, hβ8, c66, c129]; rfl)
    have x138 : cf .f32 0 = (crpR A_g L_fr L_ct).low.z := by first | exact crpOk_f hcf | (rw [crpR_f hcf] <;> (show _ = _; dsimp only [zG, zV])) | (rw [crpOk_t hca, crpG_end hca (by assumption) (by omega)] <;> assumption) | (rw [crpR_t hca, crpG_end hca (z := z) (by assumption) (by omega), ‹isGrid (GridT.mk _ _ _ _ _ _) = false›] <;> rfl) | (rw [crpR_t hca, crpG_end hca (z := z) (by assumption) (by omega), ‹isGrid (GridT.mk _ _ _ _ _ _) = true›, gvA_t] <;> first | rfl | assumption | (simp only [h2, h4, h6, h8, hβ1, hβ2, hβ3, hβ4, hβ5, hβ6, hβ7, hβ8, c66, c129]; done)) | (rw [crpOk_t hca] <;> first | assumption | rfl) | (rw [crpR_t hca] <;> first | rfl | assumption) | (rw [crpOk_t hca]; simp only [h2, h4, h6, h8, hβ1, hβ2, hβ3, hβ4, hβ5, hβ6, hβ7, hβ8, c66, c129]; rfl) | (rw [crpR_t hca]; simp only [h2, h4, h6, h8, hβ1, hβ2, hβ3, hβ4, hβ5, hβ6, hβ7, hβ8, c66, c129]; rfl)
    have x139 : cf .f32 0 = (crpR A_g L_fr L_ct).step := by first | exact crpOk_f hcf | (rw [crpR_f hcf] <;> (show _ = _; dsimp only [zG, zV])) | (rw [crpOk_t hca, crpG_end hca (by assumption) (by omega)] <;> assumption) | (rw [crpR_t hca, crpG_end hca (z := z) (by assumption) (by omega), ‹isGrid (GridT.mk _ _ _ _ _ _) = false›] <;> rfl) | (rw [crpR_t hca, crpG_end hca (z := z) (by assumption) (by omega), ‹isGrid (GridT.mk _ _ _ _ _ _) = true›, gvA_t] <;> first | rfl | assumption | (simp only [h2, h4, h6, h8, hβ1, hβ2, hβ3, hβ4, hβ5, hβ6, hβ7, hβ8, c66, c129]; done)) | (rw [crpOk_t hca] <;> first | assumption | rfl) | (rw [crpR_t hca] <;> first | rfl | assumption) | (rw [crpOk_t hca]; simp only [h2, h4, h6, h8, hβ1, hβ2, hβ3, hβ4, hβ5, hβ6, hβ7, hβ8, c66, c129]; rfl) | (rw [crpR_t hca]; simp only [h2, h4, h6, h8, hβ1, hβ2, hβ3, hβ4, hβ5, hβ6, hβ7, hβ8, c66, c129]; rfl)
    have x140 : (crpR A_g L_fr L_ct).x = 0 := by first | exact crpOk_f hcf | (rw [crpR_f hcf] <;> (show _ = _; dsimp only [zG, zV])) | (rw [crpOk_t hca, crpG_end hca (by assumption) (by omega)] <;> assumption) | (rw [crpR_t hca, crpG_end hca (z := z) (by assumption) (by omega), ‹isGrid (GridT.mk _ _ _ _ _ _) = false›] <;> rfl) | (rw [crpR_t hca, crpG_end hca (z := z) (by assumption) (by omega), ‹isGrid (GridT.mk _ _ _ _ _ _) = true›, gvA_t] <;> first | rfl | assumption | (simp only [h2, h4, h6, h8, hβ1, hβ2, hβ3, hβ4, hβ5, hβ6, hβ7, hβ8, c66, c129]; done)) | (rw [crpOk_t hca] <;> first | assumption | rfl) | (rw [crpR_t hca] <;> first | rfl | assumption) | (rw [crpOk_t hca]; simp only [h2, h4, h6, h8, hβ1, hβ2, hβ3, hβ4, hβ5, hβ6, hβ7, hβ8, c66, c129]; rfl) | (rw [crpR_t hca]; simp only [h2, h4, h6, h8, hβ1, hβ2, hβ3, hβ4, hβ5, hβ6, hβ7, hβ8, c66, c129]; rfl)
    have x141 : (crpR A_g L_fr L_ct).y = 0 := by first | exact crpOk_f hcf | (rw [crpR_f hcf] <;> (show _ = _; dsimp only [zG, zV])) | (rw [crpOk_t hca, crpG_end hca (by assumption) (by omega)] <;> assumption) | (rw [crpR_t hca, crpG_end hca (z := z) (by assumption) (by omega), ‹isGrid (GridT.mk _ _ _ _ _ _) = false›] <;> rfl) | (rw [crpR_t hca, crpG_end hca (z := z) (by assumption) (by omega), ‹isGrid (GridT.mk _ _ _ _ _ _) = true›, gvA_t] <;> first | rfl | assumption | (simp only [h2, h4, h6, h8, hβ1, hβ2, hβ3, hβ4, hβ5, hβ6, hβ7, hβ8, c66, c129]; done)) | (rw [crpOk_t hca] <;> first | assumption | rfl) | (rw [crpR_t hca] <;> first | rfl | assumption) | (rw [crpOk_t hca]; simp only [h2, h4, h6, h8, hβ1, hβ2, hβ3, hβ4, hβ5, hβ6, hβ7, hβ8, c66, c129]; rfl) | (rw [crpR_t hca]; simp only [h2, h4, h6, h8, hβ1, hβ2, hβ3, hβ4, hβ5, hβ6, hβ7, hβ8, c66, c129]; rfl)
    have x142 : (crpR A_g L_fr L_ct).z = 0 := by first | exact crpOk_f hcf | (rw [crpR_f hcf] <;> (show _ = _; dsimp only [zG, zV])) | (rw [crpOk_t hca, crpG_end hca (by assumption) (by omega)] <;> assumption) | (rw [crpR_t hca, crpG_end hca (z := z) (by assumption) (by omega), ‹isGrid (GridT.mk _ _ _ _ _ _) = false›] <;> rfl) | (rw [crpR_t hca, crpG_end hca (z := z) (by assumption) (by omega), ‹isGrid (GridT.mk _ _ _ _ _ _) = true›, gvA_t] <;> first | rfl | assumption | (simp only [h2, h4, h6, h8, hβ1, hβ2, hβ3, hβ4, hβ5, hβ6, hβ7, hβ8, c66, c129]; done)) | (rw [crpOk_t hca] <;> first | assumption | rfl) | (rw [crpR_t hca] <;> first | rfl | assumption) | (rw [crpOk_t hca]; simp only [h2, h4, h6, h8, hβ1, hβ2, hβ3, hβ4, hβ5, hβ6, hβ7, hβ8, c66, c129]; rfl) | (rw [crpR_t hca]; simp only [h2, h4, h6, h8, hβ1, hβ2, hβ3, hβ4, hβ5, hβ6, hβ7, hβ8, c66, c129]; rfl)
    have x143 : ([]) = ((crpR A_g L_fr L_ct).vals) := by first | exact crpOk_f hcf | (rw [crpR_f hcf] <;> (show _ = _; dsimp only [zG, zV])) | (rw [crpOk_t hca, crpG_end hca (by assumption) (by omega)] <;> assumption) | (rw [crpR_t hca, crpG_end hca (z := z) (by assumption) (by omega), ‹isGrid (GridT.mk _ _ _ _ _ _) = false›] <;> rfl) | (rw [crpR_t hca, crpG_end hca (z := z) (by assumption) (by omega), ‹isGrid (GridT.mk _ _ _ _ _ _) = true›, gvA_t] <;> first | rfl | assumption | (simp only [h2, h4, h6, h8, hβ1, hβ2, hβ3, hβ4, hβ5, hβ6, hβ7, hβ8, c66, c129]; done)) | (rw [crpOk_t hca] <;> first | assumption | rfl) | (rw [crpR_t hca] <;> first | rfl | assumption) | (rw [crpOk_t hca]; simp only [h2, h4, h6, h8, hβ1, hβ2, hβ3, hβ4, hβ5, hβ6, hβ7, hβ8, c66, c129]; rfl) | (rw [crpR_t hca]; simp only [h2, h4, h6, h8, hβ1, hβ2, hβ3, hβ4, hβ5, hβ6, hβ7, hβ8, c66, c129]; rfl)
    exact ⟨[(Fl 0), (Fl 0), (Fl 0), (Fl 0), (Iv 0), (Iv 0), (Iv 0), (.slice none 0 0)], (by first | rfl | rw [x135]), fun u hu => ⟨0, 0, 0, 0, (.slice none 0 0), (by first | with_reducible rfl | (show _ = _; simp only [x140, x141, x142]) | rfl), x136, x137, x138, x139, (Hang.castL (Sl.hang_nil _ _ _ _) x143) u hu⟩⟩
  have c129' := c129
  (try simp only [hβ1, hβ2, hβ3, hβ4, hβ5, hβ6, hβ7, hβ8] at c129')
  (try simp only [icmp, Bool.and_eq_true, Bool.or_eq_true, Bool.and_eq_false_iff, Bool.or_eq_false_iff, Bool.not_eq_true', Bool.not_eq_false', decide_eq_true_eq, decide_eq_false_iff_not, beq_iff_eq, bne_iff_ne, beq_eq_false_iff_ne, bne_eq_false_iff_eq] at c129')
  have hca := crpA_t (g := A_g) (fr := L_fr) (ct := L_ct) (by assumption) (by assumption)
  have hcb := crp_bd hca
  refine wp_skip (hK81 _ _ ?_)
  refine wp_seq_k fun K144 hK144 => ?_
  have n148 : b15 < w124.heap.size := Blk.lt (((((hB17.ext E25).ext E33).ext E62).ext E84).ext E125)
  have n149 : b22 < w124.heap.size := Blk.lt ((((hB24.ext E33).ext E62).ext E84).ext E125)
  refine region_draw (
    [Fact.pure [] (fun v => v = (Pt b15 0)),
    Fact.pure [76] (fun v => v = (.agg #[(Fl r1), (Fl r3), (Fl r5)])),
    Fact.pure [] (fun v => v = (Pt b15 3)),
    Fact.pure [78] (fun v => v = (Fl r7)),
    Fact.pure [] (fun v => v = (.slice p_fr L_fr.length q_fr)),
    Fact.mem [80] (fun v w' => PtrR RI w' v (nth L_fr 0)) (by intro v w1 w2 hx h; exact h.ext RI.mono hx),
    Fact.pure [81] (fun v => v = (Iv (nth L_fr 0))),
    Fact.pure [] (fun v => v = (.slice p_fr L_fr.length q_fr)),
    Fact.mem [83] (fun v w' => PtrR RI w' v (nth L_fr 1)) (by intro v w1 w2 hx h; exact h.ext RI.mono hx),
    Fact.pure [84] (fun v => v = (Iv (nth L_fr 1))),
    Fact.pure [] (fun v => v = (.slice p_fr L_fr.length q_fr)),
    Fact.mem [86] (fun v w' => PtrR RI w' v (nth L_fr 2)) (by intro v w1 w2 hx h; exact h.ext RI.mono hx),
    Fact.pure [87] (fun v => v = (Iv (nth L_fr 2))),
    Fact.pure [77, 79, 82, 85, 88] (fun v => ∃ cs_1 : List Value, v = (.agg cs_1.toArray) ∧ RV3 w (ptG A_g.low (cf .f32 r7) (nth L_fr 0) (nth L_fr 1) (nth L_fr 2)) cs_1),
    Fact.pure [] (fun v => v = (Pt b15 3)),
    Fact.pure [90] (fun v => v = (Fl r7)),
    Fact.pure [] (fun v => v = (.slice p_ct L_ct.length q_ct)),
    Fact.mem [92] (fun v w' => PtrR RI w' v (nth L_ct 0)) (by intro v w1 w2 hx h; exact h.ext RI.mono hx),
    Fact.pure [93] (fun v => v = (Iv (nth L_ct 0))),
    Fact.pure [] (fun v => v = (.slice p_ct L_ct.length q_ct)),
    Fact.mem [95] (fun v w' => PtrR RI w' v (nth L_ct 1)) (by intro v w1 w2 hx h; exact h.ext RI.mono hx),
    Fact.pure [96] (fun v => v = (Iv (nth L_ct 1))),
    Fact.pure [] (fun v => v = (.slice p_ct L_ct.length q_ct)),
    Fact.mem [98] (fun v w' => PtrR RI w' v (nth L_ct 2)) (by intro v w1 w2 hx h; exact h.ext RI.mono hx),
    Fact.pure [99] (fun v => v = (Iv (nth L_ct 2))),
    Fact.mem [] (fun v w' => ∃ bo_1 : Nat, v = (.slice (some ⟨bo_1, 0, none⟩) 0 0) ∧ w124.heap.size ≤ bo_1 ∧ bo_1 < w'.heap.size ∧ Own RF 1 22 bo_1 0 w' (.slice (some ⟨bo_1, 0, none⟩) 0 0) []) (by rintro v w1 w2 hx ⟨z1, rfl, k0, k1, k2⟩; exact ⟨_, rfl, k0, (Nat.lt_of_lt_of_le k1 hx.size), (Own.ext k2 RF.flat hx)⟩),
    Fact.mem [89, 91, 94, 97, 100, 101] (fun v w' => ∃ r_1 : Nat, ∃ r_2 : Nat, ∃ r_3 : Nat, ∃ bo_4 : Nat, v = (.agg #[(Fl r_1), (Fl r_2), (Fl r_3), (Fl r7), (Iv (nth L_ct 0)), (Iv (nth L_ct 1)), (Iv (nth L_ct 2)), (.slice (some ⟨bo_4, 0, none⟩) 0 0)]) ∧ cf .f32 r_1 = (ptG A_g.low (cf .f32 r7) (nth L_fr 0) (nth L_fr 1) (nth L_fr 2)).x ∧ cf .f32 r_2 = (ptG A_g.low (cf .f32 r7) (nth L_fr 0) (nth L_fr 1) (nth L_fr 2)).y ∧ cf .f32 r_3 = (ptG A_g.low (cf .f32 r7) (nth L_fr 0) (nth L_fr 1) (nth L_fr 2)).z ∧ w124.heap.size ≤ bo_4 ∧ bo_4 < w'.heap.size ∧ Own RF 1 22 bo_4 0 w' (.slice (some ⟨bo_4, 0, none⟩) 0 0) []) (by rintro v w1 w2 hx ⟨z1, z2, z3, z4, rfl, k0, k1, k2, k3, k4, k5⟩; exact ⟨_, _, _, _, rfl, k0, k1, k2, k3, (Nat.lt_of_lt_of_le k4 hx.size), (Own.ext k5 RF.flat hx)⟩),
    Fact.mem [] (fun v w' => ∃ b : Nat, v = .pointer (some ⟨b, 0, none⟩) ∧ w124.heap.size ≤ b ∧ Blk w' b [(Fl 0), (Fl 0), (Fl 0), (Fl 0), (Iv 0), (Iv 0), (Iv 0), (.slice none 0 0)]) (by rintro v w1 w2 hx ⟨b, rfl, hb, hB⟩; exact ⟨b, rfl, hb, (hB.ext hx)⟩)]) mixed (by kernel_rfl) (by intro _ _ d _ _ h; cases d <;> exact h) ?_
  obtain ⟨w145, hw147⟩ : ∃ w', w' = World.drew w124 := ⟨_, rfl⟩; rw [← hw147]; have E146 : Ext w124 w145 := by rw [hw147]; exact Ext.draw _
  clear hw147
  have X150 := Ext.gr X128 E146
  refine RW_d _ rfl (fun v => by dsimp only [List.set]; try rfl) (fun u hu hF => ?_) (fun v151 => ?_)
  · clear hF
    refine doesG_un rfl ?_
    refine (does_fieldAddr (ev rfl) fa31_0).mono ?_; rintro _ _ ⟨rfl, rfl⟩
    exact ⟨rfl, Ext.refl _⟩
  refine RW_d _ rfl (fun v => by dsimp only [List.set]; try rfl) (fun u hu hF => ?_) (fun v152 => ?_)
  · have h76_ : v151 = (Pt b15 0) := hF.1
    clear hF
    refine doesG_un rfl ?_
    obtain rfl := h76_
    refine (does_loadAgg (cs := [(Fl r1), (Fl r3), (Fl r5)]) (ev rfl) Try.isAgg29 Try.sizeOf29 (Cells.sub (Blk.cells (((((((hB17.ext E25).ext E33).ext E62).ext E84).ext E125).ext E146).ext hu)) 0 3) rfl).mono ?_; rintro _ _ ⟨rfl, rfl⟩
    exact ⟨rfl, Ext.refl _⟩
  refine RW_d _ rfl (fun v => by dsimp only [List.set]; try rfl) (fun u hu hF => ?_) (fun v153 => ?_)
  · clear hF
    refine doesG_un rfl ?_
    refine (does_fieldAddr (ev rfl) fa31_1).mono ?_; rintro _ _ ⟨rfl, rfl⟩
    exact ⟨rfl, Ext.refl _⟩
  refine RW_d _ rfl (fun v => by dsimp only [List.set]; try rfl) (fun u hu hF => ?_) (fun v154 => ?_)
  · have h78_ : v153 = (Pt b15 3) := hF.1
    clear hF
    refine doesG_un rfl ?_
    obtain rfl := h78_
    refine (does_load (u := (Fl r7)) (ev rfl) Try.isAgg22 (Cells.at (Blk.cells (((((((hB17.ext E25).ext E33).ext E62).ext E84).ext E125).ext E146).ext hu)) 3 rfl)).mono ?_; rintro _ _ ⟨rfl, rfl⟩
    exact ⟨rfl, Ext.refl _⟩
  refine RW_d _ rfl (fun v => by dsimp only [List.set]; try rfl) (fun u hu hF => ?_) (fun v155 => ?_)
  · clear hF
    refine doesG_un rfl ?_
    refine (does_move (u := (.slice p_fr L_fr.length q_fr)) (ev rfl)).mono ?_; rintro _ _ ⟨rfl, rfl⟩
    exact ⟨rfl, Ext.refl _⟩
  refine RW_d _ rfl (fun v => by dsimp only [List.set]; try rfl) (fun u hu hF => ?_) (fun v156 => ?_)
  · have h80_ : v155 = (.slice p_fr L_fr.length q_fr) := hF.1
    clear hF
    refine doesG_un rfl ?_
    obtain rfl := h80_
    refine (does_indexSl (R := RI) (i := 0) (xs := L_fr) (e := (nth L_fr 0)) Try.underlying38 Try.sizeOf2 (ev rfl) (ev rfl) (Sl.ext (Sl.ext hv_fr RI.mono (Ext.gr X128 E146)) RI.mono hu) (by omega) (nth_some (by first | omega | (simp only [icmp, Bool.or_eq_false_iff, Bool.not_eq_false', Bool.not_eq_true', bne_eq_false_iff_eq] at hg1; omega)))).mono ?_; rintro v u' ⟨b, of, cs, hv, hc, hR, hu'⟩; subst hu'
    exact ⟨⟨b, of, cs, hv, hc, hR⟩, Ext.refl _⟩
  refine RW_d _ rfl (fun v => by dsimp only [List.set]; try rfl) (fun u hu hF => ?_) (fun v157 => ?_)
  · have h81_ : PtrR RI u v156 (nth L_fr 0) := hF.1
    clear hF
    refine doesG_un rfl ?_
    obtain ⟨b81_, o81_, _, rfl, hc81_, rfl⟩ := h81_
    refine (does_load (u := (Iv (nth L_fr 0))) (ev rfl) Try.isAgg2 (Cells.at hc81_ 0 rfl)).mono ?_; rintro _ _ ⟨rfl, rfl⟩
    exact ⟨rfl, Ext.refl _⟩
  refine RW_d _ rfl (fun v => by dsimp only [List.set]; try rfl) (fun u hu hF => ?_) (fun v158 => ?_)
  · clear hF
    refine doesG_un rfl ?_
    refine (does_move (u := (.slice p_fr L_fr.length q_fr)) (ev rfl)).mono ?_; rintro _ _ ⟨rfl, rfl⟩
    exact ⟨rfl, Ext.refl _⟩
  refine RW_d _ rfl (fun v => by dsimp only [List.set]; try rfl) (fun u hu hF => ?_) (fun v159 => ?_)
  · have h83_ : v158 = (.slice p_fr L_fr.length q_fr) := hF.1
    clear hF
    refine doesG_un rfl ?_
    obtain rfl := h83_
    refine (does_indexSl (R := RI) (i := 1) (xs := L_fr) (e := (nth L_fr 1)) Try.underlying38 Try.sizeOf2 (ev rfl) (ev rfl) (Sl.ext (Sl.ext hv_fr RI.mono (Ext.gr X128 E146)) RI.mono hu) (by omega) (nth_some (by first | omega | (simp only [icmp, Bool.or_eq_false_iff, Bool.not_eq_false', Bool.not_eq_true', bne_eq_false_iff_eq] at hg1; omega)))).mono ?_; rintro v u' ⟨b, of, cs, hv, hc, hR, hu'⟩; subst hu'
    exact ⟨⟨b, of, cs, hv, hc, hR⟩, Ext.refl _⟩
  refine RW_d _ rfl (fun v => by dsimp only [List.set]; try rfl) (fun u hu hF => ?_) (fun v160 => ?_)
  · have h84_ : PtrR RI u v159 (nth L_fr 1) := hF.1
    clear hF
    refine doesG_un rfl ?_
    obtain ⟨b84_, o84_, _, rfl, hc84_, rfl⟩ := h84_
    refine (does_load (u := (Iv (nth L_fr 1))) (ev rfl) Try.isAgg2 (Cells.at hc84_ 0 rfl)).mono ?_; rintro _ _ ⟨rfl, rfl⟩
    exact ⟨rfl, Ext.refl _⟩
  refine RW_d _ rfl (fun v => by dsimp only [List.set]; try rfl) (fun u hu hF => ?_) (fun v161 => ?_)
  · clear hF
    refine doesG_un rfl ?_
    refine (does_move (u := (.slice p_fr L_fr.length q_fr)) (ev rfl)).mono ?_; rintro _ _ ⟨rfl, rfl⟩
    exact ⟨rfl, Ext.refl _⟩
  refine RW_d _ rfl (fun v => by dsimp only [List.set]; try rfl) (fun u hu hF => ?_) (fun v162 => ?_)
  · have h86_ : v161 = (.slice p_fr L_fr.length q_fr) := hF.1
    clear hF
    refine doesG_un rfl ?_
    obtain rfl := h86_
    refine (does_indexSl (R := RI) (i := 2) (xs := L_fr) (e := (nth L_fr 2)) Try.underlying38 Try.sizeOf2 (ev rfl) (ev rfl) (Sl.ext (Sl.ext hv_fr RI.mono (Ext.gr X128 E146)) RI.mono hu) (by omega) (nth_some (by first | omega | (simp only [icmp, Bool.or_eq_false_iff, Bool.not_eq_false', Bool.not_eq_true', bne_eq_false_iff_eq] at hg1; omega)))).mono ?_; rintro v u' ⟨b, of, cs, hv, hc, hR, hu'⟩; subst hu'
    exact ⟨⟨b, of, cs, hv, hc, hR⟩, Ext.refl _⟩
  refine RW_d _ rfl (fun v => by dsimp only [List.set]; try rfl) (fun u hu hF => ?_) (fun v163 => ?_)
  · have h87_ : PtrR RI u v162 (nth L_fr 2) := hF.1
    clear hF
    refine doesG_un rfl ?_
    obtain ⟨b87_, o87_, _, rfl, hc87_, rfl⟩ := h87_
    refine (does_load (u := (Iv (nth L_fr 2))) (ev rfl) Try.isAgg2 (Cells.at hc87_ 0 rfl)).mono ?_; rintro _ _ ⟨rfl, rfl⟩
    exact ⟨rfl, Ext.refl _⟩
  refine RW_d _ rfl (fun v => by dsimp only [List.set]; try rfl) (fun u hu hF => ?_) (fun v164 => ?_)
  · have h77_ : v152 = (.agg #[(Fl r1), (Fl r3), (Fl r5)]) := hF.1
    have h79_ : v154 = (Fl r7) := hF.2.1
    have h82_ : v157 = (Iv (nth L_fr 0)) := hF.2.2.1
    have h85_ : v160 = (Iv (nth L_fr 1)) := hF.2.2.2.1
    have h88_ : v163 = (Iv (nth L_fr 2)) := hF.2.2.2.2.1
    clear hF
    refine doesG_un rfl ?_
    obtain rfl := h77_
    obtain rfl := h79_
    obtain rfl := h82_
    obtain rfl := h85_
    obtain rfl := h88_
    refine (does_call (args := #[(.agg #[(Fl r1), (Fl r3), (Fl r5)]), (Fl r7), (Iv (nth L_fr 0)), (Iv (nth L_fr 1)), (Iv (nth L_fr 2))]) cal38 (evs rfl) (c_spec_l06Point [(Fl r1), (Fl r3), (Fl r5)] A_g.low r7 (nth L_fr 0) (nth L_fr 1) (nth L_fr 2) _ ⟨r1, r3, r5, rfl, h2, h4, h6⟩)).mono ?_; rintro v u' ⟨hx, ⟨csn1, hv, k0⟩⟩
    exact ⟨⟨csn1, hv, k0⟩, hx⟩
  refine RW_d _ rfl (fun v => by dsimp only [List.set]; try rfl) (fun u hu hF => ?_) (fun v165 => ?_)
  · clear hF
    refine doesG_un rfl ?_
    refine (does_fieldAddr (ev rfl) fa31_1).mono ?_; rintro _ _ ⟨rfl, rfl⟩
    exact ⟨rfl, Ext.refl _⟩
  refine RW_d _ rfl (fun v => by dsimp only [List.set]; try rfl) (fun u hu hF => ?_) (fun v166 => ?_)
  · have h90_ : v165 = (Pt b15 3) := hF.1
    clear hF
    refine doesG_un rfl ?_
    obtain rfl := h90_
    refine (does_load (u := (Fl r7)) (ev rfl) Try.isAgg22 (Cells.at (Blk.cells (((((((hB17.ext E25).ext E33).ext E62).ext E84).ext E125).ext E146).ext hu)) 3 rfl)).mono ?_; rintro _ _ ⟨rfl, rfl⟩
    exact ⟨rfl, Ext.refl _⟩
  refine RW_d _ rfl (fun v => by dsimp only [List.set]; try rfl) (fun u hu hF => ?_) (fun v167 => ?_)
  · clear hF
    refine doesG_un rfl ?_
    refine (does_move (u := (.slice p_ct L_ct.length q_ct)) (ev rfl)).mono ?_; rintro _ _ ⟨rfl, rfl⟩
    exact ⟨rfl, Ext.refl _⟩
  refine RW_d _ rfl (fun v => by dsimp only [List.set]; try rfl) (fun u hu hF => ?_) (fun v168 => ?_)
  · have h92_ : v167 = (.slice p_ct L_ct.length q_ct) := hF.1
    clear hF
    refine doesG_un rfl ?_
    obtain rfl := h92_
    refine (does_indexSl (R := RI) (i := 0) (xs := L_ct) (e := (nth L_ct 0)) Try.underlying38 Try.sizeOf2 (ev rfl) (ev rfl) (Sl.ext (Sl.ext hv_ct RI.mono (Ext.gr X128 E146)) RI.mono hu) (by omega) (nth_some (by first | omega | (simp only [icmp, Bool.or_eq_false_iff, Bool.not_eq_false', Bool.not_eq_true', bne_eq_false_iff_eq] at hg1; omega)))).mono ?_; rintro v u' ⟨b, of, cs, hv, hc, hR, hu'⟩; subst hu'
    exact ⟨⟨b, of, cs, hv, hc, hR⟩, Ext.refl _⟩
  refine RW_d _ rfl (fun v => by dsimp only [List.set]; try rfl) (fun u hu hF => ?_) (fun v169 => ?_)
  · have h93_ : PtrR RI u v168 (nth L_ct 0) := hF.1
    clear hF
    refine doesG_un rfl ?_
    obtain ⟨b93_, o93_, _, rfl, hc93_, rfl⟩ := h93_
    refine (does_load (u := (Iv (nth L_ct 0))) (ev rfl) Try.isAgg2 (Cells.at hc93_ 0 rfl)).mono ?_; rintro _ _ ⟨rfl, rfl⟩
    exact ⟨rfl, Ext.refl _⟩
  refine RW_d _ rfl (fun v => by dsimp only [List.set]; try rfl) (fun u hu hF => ?_) (fun v170 => ?_)
  · clear hF
    refine doesG_un rfl ?_
    refine (does_move (u := (.slice p_ct L_ct.length q_ct)) (ev rfl)).mono ?_; rintro _ _ ⟨rfl, rfl⟩
    exact ⟨rfl, Ext.refl _⟩
  refine RW_d _ rfl (fun v => by dsimp only [List.set]; try rfl) (fun u hu hF => ?_) (fun v171 => ?_)
  · have h95_ : v170 = (.slice p_ct L_ct.length q_ct) := hF.1
    clear hF
    refine doesG_un rfl ?_
    obtain rfl := h95_
    refine (does_indexSl (R := RI) (i := 1) (xs := L_ct) (e := (nth L_ct 1)) Try.underlying38 Try.sizeOf2 (ev rfl) (ev rfl) (Sl.ext (Sl.ext hv_ct RI.mono (Ext.gr X128 E146)) RI.mono hu) (by omega) (nth_some (by first | omega | (simp only [icmp, Bool.or_eq_false_iff, Bool.not_eq_false', Bool.not_eq_true', bne_eq_false_iff_eq] at hg1; omega)))).mono ?_; rintro v u' ⟨b, of, cs, hv, hc, hR, hu'⟩; subst hu'
    exact ⟨⟨b, of, cs, hv, hc, hR⟩, Ext.refl _⟩
  refine RW_d _ rfl (fun v => by dsimp only [List.set]; try rfl) (fun u hu hF => ?_) (fun v172 => ?_)
  · have h96_ : PtrR RI u v171 (nth L_ct 1) := hF.1
    clear hF
    refine doesG_un rfl ?_
    obtain ⟨b96_, o96_, _, rfl, hc96_, rfl⟩ := h96_
    refine (does_load (u := (Iv (nth L_ct 1))) (ev rfl) Try.isAgg2 (Cells.at hc96_ 0 rfl)).mono ?_; rintro _ _ ⟨rfl, rfl⟩
    exact ⟨rfl, Ext.refl _⟩
  refine RW_d _ rfl (fun v => by dsimp only [List.set]; try rfl) (fun u hu hF => ?_) (fun v173 => ?_)
  · clear hF
    refine doesG_un rfl ?_
    refine (does_move (u := (.slice p_ct L_ct.length q_ct)) (ev rfl)).mono ?_; rintro _ _ ⟨rfl, rfl⟩
    exact ⟨rfl, Ext.refl _⟩
  refine RW_d _ rfl (fun v => by dsimp only [List.set]; try rfl) (fun u hu hF => ?_) (fun v174 => ?_)
  · have h98_ : v173 = (.slice p_ct L_ct.length q_ct) := hF.1
    clear hF
    refine doesG_un rfl ?_
    obtain rfl := h98_
    refine (does_indexSl (R := RI) (i := 2) (xs := L_ct) (e := (nth L_ct 2)) Try.underlying38 Try.sizeOf2 (ev rfl) (ev rfl) (Sl.ext (Sl.ext hv_ct RI.mono (Ext.gr X128 E146)) RI.mono hu) (by omega) (nth_some (by first | omega | (simp only [icmp, Bool.or_eq_false_iff, Bool.not_eq_false', Bool.not_eq_true', bne_eq_false_iff_eq] at hg1; omega)))).mono ?_; rintro v u' ⟨b, of, cs, hv, hc, hR, hu'⟩; subst hu'
    exact ⟨⟨b, of, cs, hv, hc, hR⟩, Ext.refl _⟩
  refine RW_d _ rfl (fun v => by dsimp only [List.set]; try rfl) (fun u hu hF => ?_) (fun v175 => ?_)
  · have h99_ : PtrR RI u v174 (nth L_ct 2) := hF.1
    clear hF
    refine doesG_un rfl ?_
    obtain ⟨b99_, o99_, _, rfl, hc99_, rfl⟩ := h99_
    refine (does_load (u := (Iv (nth L_ct 2))) (ev rfl) Try.isAgg2 (Cells.at hc99_ 0 rfl)).mono ?_; rintro _ _ ⟨rfl, rfl⟩
    exact ⟨rfl, Ext.refl _⟩
  refine RW_d _ rfl (fun v => by dsimp only [List.set]; try rfl) (fun u hu hF => ?_) (fun v176 => ?_)
  · clear hF
    refine doesG_un rfl ?_
    refine (does_slice0 (e := 22) (fun _ => by kernel_rfl)).mono ?_; rintro _ _ ⟨b, rfl, hb, hl, hO, hx⟩
    exact ⟨⟨b, rfl, Nat.le_trans (Nat.le_trans (Below.size E146) (Below.size hu)) hb, hl, Own.reB (hO _ RF 1)⟩, hx⟩
  refine RW_d _ rfl (fun v => by dsimp only [List.set]; try rfl) (fun u hu hF => ?_) (fun v177 => ?_)
  · have h89_ : ∃ cs_1 : List Value, v164 = (.agg cs_1.toArray) ∧ RV3 w (ptG A_g.low (cf .f32 r7) (nth L_fr 0) (nth L_fr 1) (nth L_fr 2)) cs_1 := hF.1
    have h91_ : v166 = (Fl r7) := hF.2.1
    have h94_ : v169 = (Iv (nth L_ct 0)) := hF.2.2.1
    have h97_ : v172 = (Iv (nth L_ct 1)) := hF.2.2.2.1
    have h100_ : v175 = (Iv (nth L_ct 2)) := hF.2.2.2.2.1
    have h101_ : ∃ bo_1 : Nat, v176 = (.slice (some ⟨bo_1, 0, none⟩) 0 0) ∧ w124.heap.size ≤ bo_1 ∧ bo_1 < u.heap.size ∧ Own RF 1 22 bo_1 0 u (.slice (some ⟨bo_1, 0, none⟩) 0 0) [] := hF.2.2.2.2.2.1
    clear hF
    refine doesG_un rfl ?_
    obtain ⟨_, rfl, ⟨r89_1, r89_3, r89_5, rfl, h89_2, h89_4, h89_6⟩⟩ := h89_
    obtain rfl := h91_
    obtain rfl := h94_
    obtain rfl := h97_
    obtain rfl := h100_
    obtain ⟨bo101_1, rfl, h101_2, h101_3, h101_4⟩ := h101_
    refine (does_build (parts' := [(0, (.agg #[(Fl r89_1), (Fl r89_3), (Fl r89_5)])), (1, (Fl r7)), (2, (Iv (nth L_ct 0))), (3, (Iv (nth L_ct 1))), (4, (Iv (nth L_ct 2))), (5, (.slice (some ⟨bo101_1, 0, none⟩) 0 0))]) (cells := #[(Fl r89_1), (Fl r89_3), (Fl r89_5), (Fl r7), (Iv (nth L_ct 0)), (Iv (nth L_ct 1)), (Iv (nth L_ct 2)), (.slice (some ⟨bo101_1, 0, none⟩) 0 0)]) (evp rfl) (by kernel_rfl)).mono ?_; rintro _ _ ⟨rfl, rfl⟩
    exact ⟨⟨r89_1, r89_3, r89_5, bo101_1, rfl, (by simp only [h89_2, h89_4, h89_6]), (by simp only [h89_2, h89_4, h89_6]), (by simp only [h89_2, h89_4, h89_6]), (by assumption), (by assumption), (by assumption)⟩, Ext.refl _⟩
  refine RW_d _ rfl (fun v => by dsimp only [List.set]; try rfl) (fun u hu hF => ?_) (fun v178 => ?_)
  · clear hF
    refine doesG_un rfl ?_
    refine (does_alloc z31).mono ?_; rintro _ _ ⟨b, rfl, hb, hB, hx⟩
    exact ⟨⟨b, rfl, Nat.le_trans (Nat.le_trans (Below.size E146) (Below.size hu)) hb, hB⟩, hx⟩
  refine RW_fin ?_; intro w179 E180 hP181
  obtain ⟨⟨⟨⟨⟨⟨⟨⟨⟨⟨⟨⟨⟨⟨⟨⟨⟨⟨⟨⟨⟨⟨⟨⟨⟨⟨⟨⟨-, -⟩, -⟩, -⟩, -⟩, -⟩, -⟩, -⟩, -⟩, -⟩, -⟩, -⟩, -⟩, -⟩, -⟩, -⟩, -⟩, -⟩, -⟩, -⟩, -⟩, -⟩, -⟩, -⟩, -⟩, -⟩, -⟩, q182⟩, q183⟩ := hP181
  have X184 := Ext.gr X150 E180
  have q182 : ∃ r_1 : Nat, ∃ r_2 : Nat, ∃ r_3 : Nat, ∃ bo_4 : Nat, v177 = (.agg #[(Fl r_1), (Fl r_2), (Fl r_3), (Fl r7), (Iv (nth L_ct 0)), (Iv (nth L_ct 1)), (Iv (nth L_ct 2)), (.slice (some ⟨bo_4, 0, none⟩) 0 0)]) ∧ cf .f32 r_1 = (ptG A_g.low (cf .f32 r7) (nth L_fr 0) (nth L_fr 1) (nth L_fr 2)).x ∧ cf .f32 r_2 = (ptG A_g.low (cf .f32 r7) (nth L_fr 0) (nth L_fr 1) (nth L_fr 2)).y ∧ cf .f32 r_3 = (ptG A_g.low (cf .f32 r7) (nth L_fr 0) (nth L_fr 1) (nth L_fr 2)).z ∧ w124.heap.size ≤ bo_4 ∧ bo_4 < w179.heap.size ∧ Own RF 1 22 bo_4 0 w179 (.slice (some ⟨bo_4, 0, none⟩) 0 0) [] := q182
  obtain ⟨r185, r187, r189, bo191, rfl, h186, h188, h190, h192, h193, h194⟩ := q182
  have q183 : ∃ b : Nat, v178 = .pointer (some ⟨b, 0, none⟩) ∧ w124.heap.size ≤ b ∧ Blk w179 b [(Fl 0), (Fl 0), (Fl 0), (Fl 0), (Iv 0), (Iv 0), (Iv 0), (.slice none 0 0)] := q183
  obtain ⟨b195, rfl, hb196, hB197⟩ := q183
  have n198 : b15 < b195 := Nat.lt_of_lt_of_le (Blk.lt (((((hB17.ext E25).ext E33).ext E62).ext E84).ext E125)) hb196
  have n199 : b22 < b195 := Nat.lt_of_lt_of_le (Blk.lt ((((hB24.ext E33).ext E62).ext E84).ext E125)) hb196
  have g200 : w.heap.size ≤ b195 := Nat.le_trans (Below.size X128) hb196
  have n201 : b15 < w179.heap.size := Blk.lt (((((((hB17.ext E25).ext E33).ext E62).ext E84).ext E125).ext E146).ext E180)
  have n202 : b22 < w179.heap.size := Blk.lt ((((((hB24.ext E33).ext E62).ext E84).ext E125).ext E146).ext E180)
  have n203 : b195 < w179.heap.size := Blk.lt hB197
  have n205 : b15 ≠ bo191 := Nat.ne_of_lt (Nat.lt_of_lt_of_le n148 h192)
  have n206 : b22 ≠ bo191 := Nat.ne_of_lt (Nat.lt_of_lt_of_le n149 h192)
  have n207 : b195 ≠ bo191 := Own.ne_blk h194 hB197 (by simp)
  have hO204 : Own RF 1 22 bo191 w179.heap.size w179 (.slice (some ⟨bo191, 0, none⟩) 0 0) [] := Own.reB h194
  have hH208 : Hang w124.heap.size w179 (fun u => Sl RF 1 u (.slice (some ⟨bo191, 0, none⟩) 0 0) ([])) := Own.hang hO204 RF.flat (by decide) h192 (Nat.le_trans (Below.size E146) (Below.size E180))
  show wpList _ _ _ _ (fr [(.agg #[(Fl r1), (Fl r3), (Fl r5), (Fl r7), (Iv A_g.x), (Iv A_g.y), (Iv A_g.z), (.slice p11 A_g.vals.length q12)]), (.slice p_fr L_fr.length q_fr), (.slice p_ct L_ct.length q_ct), (Pt b15 0), Ud, Ud, (Pt b22 0), (Bo false), (Pt b195 0), Ud, Ud, Ud, v36, v37, v38, v39, v40, v41, v42, v43, v44, v45, v46, v47, v48, v49, v50, v51, v52, v53, v54, v55, v56, v57, v58, v59, (Bo (β3 || (!β4))), Ud, v87, v88, v89, v90, v91, v92, v93, v94, v95, v96, v97, v98, v99, v100, v101, v102, v103, v104, v105, v106, v107, v108, v109, v110, v111, v112, v113, v114, v115, v116, v117, v118, v119, v120, v121, v122, (Bo β8), Ud, v151, v152, v153, v154, v155, v156, v157, v158, v159, v160, v161, v162, v163, v164, v165, v166, v167, v168, v169, v170, v171, v172, v173, v174, v175, v176, (.agg #[(Fl r185), (Fl r187), (Fl r189), (Fl r7), (Iv (nth L_ct 0)), (Iv (nth L_ct 1)), (Iv (nth L_ct 2)), (.slice (some ⟨bo191, 0, none⟩) 0 0)]), Ud, Ud, Ud, Ud, Ud, Ud, Ud, Ud, Ud, Ud, Ud, Ud, Ud, Ud, Ud, Ud, Ud, Ud, Ud, Ud, Ud, Ud, Ud, Ud, Ud, Ud, Ud, Ud, Ud, Ud, Ud, Ud, Ud, Ud, Ud, Ud, Ud, Ud, Ud, Ud, Ud, Ud, Ud, Ud, Ud, Ud, Ud]) _
  refine seqn rfl rfl (does_store (n := 8) (cs := [(Fl 0), (Fl 0), (Fl 0), (Fl 0), (Iv 0), (Iv 0), (Iv 0), (.slice none 0 0)]) (u := (.agg #[(Fl r185), (Fl r187), (Fl r189), (Fl r7), (Iv (nth L_ct 0)), (Iv (nth L_ct 1)), (Iv (nth L_ct 2)), (.slice (some ⟨bo191, 0, none⟩) 0 0)])) (ev rfl) (ev rfl) Try.sizeOf31 rfl hB197 (Nat.le_of_ble_eq_true rfl) rfl) ?_; rintro _ w211 ⟨rfl, W209, hB210⟩
  change Blk _ _ [(Fl r185), (Fl r187), (Fl r189), (Fl r7), (Iv (nth L_ct 0)), (Iv (nth L_ct 1)), (Iv (nth L_ct 2)), (.slice (some ⟨bo191, 0, none⟩) 0 0)] at hB210
  have X212 := Below.wr X184 W209 g200
  refine wpList_nil (hK144 _ _ ?_)
  refine wp_seq_k fun K213 hK213 => ?_
  refine wp_seq_k fun K214 hK214 => ?_
  refine wp_region_lit ?_
  refine q_is rfl rfl (does_assign (u := (Iv 0)) (ev rfl)) (by dsimp only [List.set]; try rfl) ?_
  refine wpList_nil (hK214 _ _ ?_)
  refine wp_block ?_
  have n220 : b15 < w211.heap.size := Blk.lt ((((((((hB17.ext E25).ext E33).ext E62).ext E84).ext E125).ext E146).ext E180).wr W209 (Nat.ne_of_lt n198))
  have n221 : b22 < w211.heap.size := Blk.lt (((((((hB24.ext E33).ext E62).ext E84).ext E125).ext E146).ext E180).wr W209 (Nat.ne_of_lt n199))
  have n222 : b195 < w211.heap.size := Blk.lt hB210
  obtain ⟨gg216, hg217, hg218, hO219⟩ := Own.start' hO204 (Own.kl hO204 RF.flat (KpL.of_wr W209) (allS ⟨n207, .inl n203⟩ all0))
  have hN223 : w124.heap.size ≤ gg216 := by rcases hg217 with h | h; exact h ▸ h192; exact Nat.le_trans (Nat.le_trans (Below.size E146) (Below.size E180)) h
  have g224 : w.heap.size ≤ gg216 := Nat.le_trans (Below.size (Ext.gr (Ext.gr (Ext.gr (Ext.gr (Ext.gr (Ext.gr (Ext.refl _) E18) E25) E33) E62) E84) E125)) hN223
  have n225 : b15 ≠ gg216 := hg217.elim (fun h => by rw [h]; exact n205) (fun h => Nat.ne_of_lt (Nat.lt_of_lt_of_le n201 h))
  have n226 : b22 ≠ gg216 := hg217.elim (fun h => by rw [h]; exact n206) (fun h => Nat.ne_of_lt (Nat.lt_of_lt_of_le n202 h))
  have n227 : b195 ≠ gg216 := hg217.elim (fun h => by rw [h]; exact n207) (fun h => Nat.ne_of_lt (Nat.lt_of_lt_of_le n203 h))
  have hg228 : gg216 < w179.heap.size := by rcases hg218 with h | h; exact h ▸ Nat.lt_of_lt_of_le h193 (Nat.le_refl _); exact h
  refine loop_ghost (σ := Nat) (fun z a w' => ∃ u215 : Nat → Value, ∃ y8_7 : Value, a = fr [(.agg #[(Fl r1), (Fl r3), (Fl r5), (Fl r7), (Iv A_g.x), (Iv A_g.y), (Iv A_g.z), (.slice p11 A_g.vals.length q12)]), (.slice p_fr L_fr.length q_fr), (.slice p_ct L_ct.length q_ct), (Pt b15 0), Ud, Ud, (Pt b22 0), (Bo false), (Pt b195 0), (Iv (z : Int)), (u215 10), (u215 11), v36, v37, v38, v39, v40, v41, v42, v43, v44, v45, v46, v47, v48, v49, v50, v51, v52, v53, v54, v55, v56, v57, v58, v59, (Bo (β3 || (!β4))), Ud, v87, v88, v89, v90, v91, v92, v93, v94, v95, v96, v97, v98, v99, v100, v101, v102, v103, v104, v105, v106, v107, v108, v109, v110, v111, v112, v113, v114, v115, v116, v117, v118, v119, v120, v121, v122, (Bo β8), Ud, v151, v152, v153, v154, v155, v156, v157, v158, v159, v160, v161, v162, v163, v164, v165, v166, v167, v168, v169, v170, v171, v172, v173, v174, v175, v176, (.agg #[(Fl r185), (Fl r187), (Fl r189), (Fl r7), (Iv (nth L_ct 0)), (Iv (nth L_ct 1)), (Iv (nth L_ct 2)), (.slice (some ⟨bo191, 0, none⟩) 0 0)]), (u215 103), (u215 104), (u215 105), (u215 106), (u215 107), (u215 108), (u215 109), (u215 110), (u215 111), (u215 112), (u215 113), (u215 114), (u215 115), (u215 116), (u215 117), (u215 118), (u215 119), (u215 120), (u215 121), (u215 122), (u215 123), (u215 124), (u215 125), (u215 126), (u215 127), (u215 128), (u215 129), (u215 130), (u215 131), (u215 132), (u215 133), (u215 134), (u215 135), (u215 136), (u215 137), (u215 138), (u215 139), (u215 140), (u215 141), (u215 142), (u215 143), (u215 144), (u215 145), Ud, Ud, Ud, Ud] ∧ KpL [gg216, b195] w211 w' ∧ Own RF 1 22 gg216 w211.heap.size w' y8_7 (takG A_g (fC A_g L_fr) (nth L_ct 0) (nth L_ct 1) (cnt (nth L_ct 0) (nth L_ct 1) 0 0 z)) ∧ Blk w' b195 [(Fl r185), (Fl r187), (Fl r189), (Fl r7), (Iv (nth L_ct 0)), (Iv (nth L_ct 1)), (Iv (nth L_ct 2)), y8_7] ∧ ((z : Int) ≤ (nth L_ct 2))) (fun z => (nth L_ct 2).toNat - z) 0 ?_ ?_
  · refine ⟨fun t => (([(.agg #[(Fl r1), (Fl r3), (Fl r5), (Fl r7), (Iv A_g.x), (Iv A_g.y), (Iv A_g.z), (.slice p11 A_g.vals.length q12)]), (.slice p_fr L_fr.length q_fr), (.slice p_ct L_ct.length q_ct), (Pt b15 0), Ud, Ud, (Pt b22 0), (Bo false), (Pt b195 0), (Iv 0), Ud, Ud, v36, v37, v38, v39, v40, v41, v42, v43, v44, v45, v46, v47, v48, v49, v50, v51, v52, v53, v54, v55, v56, v57, v58, v59, (Bo (β3 || (!β4))), Ud, v87, v88, v89, v90, v91, v92, v93, v94, v95, v96, v97, v98, v99, v100, v101, v102, v103, v104, v105, v106, v107, v108, v109, v110, v111, v112, v113, v114, v115, v116, v117, v118, v119, v120, v121, v122, (Bo β8), Ud, v151, v152, v153, v154, v155, v156, v157, v158, v159, v160, v161, v162, v163, v164, v165, v166, v167, v168, v169, v170, v171, v172, v173, v174, v175, v176, (.agg #[(Fl r185), (Fl r187), (Fl r189), (Fl r7), (Iv (nth L_ct 0)), (Iv (nth L_ct 1)), (Iv (nth L_ct 2)), (.slice (some ⟨bo191, 0, none⟩) 0 0)]), Ud, Ud, Ud, Ud, Ud, Ud, Ud, Ud, Ud, Ud, Ud, Ud, Ud, Ud, Ud, Ud, Ud, Ud, Ud, Ud, Ud, Ud, Ud, Ud, Ud, Ud, Ud, Ud, Ud, Ud, Ud, Ud, Ud, Ud, Ud, Ud, Ud, Ud, Ud, Ud, Ud, Ud, Ud, Ud, Ud, Ud, Ud] : List Value)[t]?).getD undef, (.slice (some ⟨bo191, 0, none⟩) 0 0), rfl, KpL.refl _ _, (Own.cast hO219 (by first | rfl | (simp [takG, cnt]))), hB210, ?_⟩
    (try dsimp only); omega
  · rintro z a w229 ⟨u215, y8_7, rfl, E230, hO232, hB233, hz⟩
    have X234 := Below.kl X212 E230 (allS g224 (allS g200 all0)) (Nat.le_refl _)
    obtain ⟨p235, q236, rfl⟩ := Own.shape hO232
    have hH237 : Hang w124.heap.size w229 (fun u => Sl RF 1 u (.slice p235 ((takG A_g (fC A_g L_fr) (nth L_ct 0) (nth L_ct 1) (cnt (nth L_ct 0) (nth L_ct 1) 0 0 z)).length) q236) (takG A_g (fC A_g L_fr) (nth L_ct 0) (nth L_ct 1) (cnt (nth L_ct 0) (nth L_ct 1) 0 0 z))) := Own.hang hO232 RF.flat (by decide) hN223 (Nat.le_trans (Nat.le_trans (Below.size E146) (Below.size E180)) (Nat.le_of_eq (Eq.symm (Wr.size W209))))
    refine wp_seq_k fun K238 hK238 => ?_
    refine wp_seq_k fun K239 hK239 => ?_
    refine wp_region_lit ?_
    refine q_is rfl rfl (does_move (u := (Iv (z : Int))) (ev rfl)) (by dsimp only [List.set]; try rfl) ?_
    refine q_is rfl rfl (does_fieldAddr (ev rfl) fa31_4) (by dsimp only [List.set]; try rfl) ?_
    refine q_is rfl rfl (does_load (u := (Iv (nth L_ct 2))) (ev rfl) Try.isAgg2 (Cells.at (Blk.cells hB233) 6 rfl)) (by dsimp only [List.set]; try rfl) ?_
    refine q_is rfl rfl (does_icmp (p := (z : Int)) (q := (nth L_ct 2)) (.inr (.inr (.inl rfl))) (ev rfl) (ev rfl)) (by dsimp only [List.set]; try rfl) ?_
    refine wpList_nil (hK239 _ _ ?_)
    refine wp_cond_split (t := icmp .lss (z : Int) (nth L_ct 2)) (ev rfl) (fun c240 => ?_) (fun c240 => ?_)
    · have c240' := c240
      (try simp only [hβ1, hβ2, hβ3, hβ4, hβ5, hβ6, hβ7, hβ8] at c240')
      (try simp only [icmp, Bool.and_eq_true, Bool.or_eq_true, Bool.and_eq_false_iff, Bool.or_eq_false_iff, Bool.not_eq_true', Bool.not_eq_false', decide_eq_true_eq, decide_eq_false_iff_not, beq_iff_eq, bne_iff_ne, beq_eq_false_iff_ne, bne_eq_false_iff_eq] at c240')
      refine wp_skip (hK238 _ _ ?_)
      refine wp_seq_k fun K241 hK241 => ?_
      refine wp_block ?_
      refine wp_seq_k fun K242 hK242 => ?_
      refine wp_region_lit ?_
      refine q_is rfl rfl (does_assign (u := (Iv 0)) (ev rfl)) (by dsimp only [List.set]; try rfl) ?_
      refine wpList_nil (hK242 _ _ ?_)
      refine wp_block ?_
      have n248 : b15 < w229.heap.size := Blk.lt (((((((((hB17.ext E25).ext E33).ext E62).ext E84).ext E125).ext E146).ext E180).wr W209 (Nat.ne_of_lt n198)).kl E230 (ninS n225 (ninS (Nat.ne_of_lt n198) nin0)))
      have n249 : b22 < w229.heap.size := Blk.lt ((((((((hB24.ext E33).ext E62).ext E84).ext E125).ext E146).ext E180).wr W209 (Nat.ne_of_lt n199)).kl E230 (ninS n226 (ninS (Nat.ne_of_lt n199) nin0)))
      have n250 : b195 < w229.heap.size := Blk.lt hB233
      obtain ⟨gg244, hg245, hg246, hO247⟩ := Own.start' hO232 hO232
      have hN251 : w124.heap.size ≤ gg244 := by rcases hg245 with h | h; exact h ▸ hN223; exact Nat.le_trans (Nat.le_trans (Nat.le_trans (Below.size E146) (Below.size E180)) (Nat.le_of_eq (Eq.symm (Wr.size W209)))) h
      have g252 : w.heap.size ≤ gg244 := Nat.le_trans (Below.size (Ext.gr (Ext.gr (Ext.gr (Ext.gr (Ext.gr (Ext.gr (Ext.refl _) E18) E25) E33) E62) E84) E125)) hN251
      have n253 : b15 ≠ gg244 := hg245.elim (fun h => by rw [h]; exact n225) (fun h => Nat.ne_of_lt (Nat.lt_of_lt_of_le n220 h))
      have n254 : b22 ≠ gg244 := hg245.elim (fun h => by rw [h]; exact n226) (fun h => Nat.ne_of_lt (Nat.lt_of_lt_of_le n221 h))
      have n255 : b195 ≠ gg244 := hg245.elim (fun h => by rw [h]; exact n227) (fun h => Nat.ne_of_lt (Nat.lt_of_lt_of_le n222 h))
      have hg256 : gg244 < w229.heap.size := by rcases hg246 with h | h; exact h ▸ Nat.lt_of_lt_of_le hg228 (Nat.le_trans (Nat.le_of_eq (Eq.symm (Wr.size W209))) (KpL.size E230)); exact h
      refine loop_ghost (σ := Nat) (fun y a w' => ∃ u243 : Nat → Value, ∃ y8_7 : Value, a = fr [(.agg #[(Fl r1), (Fl r3), (Fl r5), (Fl r7), (Iv A_g.x), (Iv A_g.y), (Iv A_g.z), (.slice p11 A_g.vals.length q12)]), (.slice p_fr L_fr.length q_fr), (.slice p_ct L_ct.length q_ct), (Pt b15 0), Ud, Ud, (Pt b22 0), (Bo false), (Pt b195 0), (Iv (z : Int)), (Iv (y : Int)), (u243 11), v36, v37, v38, v39, v40, v41, v42, v43, v44, v45, v46, v47, v48, v49, v50, v51, v52, v53, v54, v55, v56, v57, v58, v59, (Bo (β3 || (!β4))), Ud, v87, v88, v89, v90, v91, v92, v93, v94, v95, v96, v97, v98, v99, v100, v101, v102, v103, v104, v105, v106, v107, v108, v109, v110, v111, v112, v113, v114, v115, v116, v117, v118, v119, v120, v121, v122, (Bo β8), Ud, v151, v152, v153, v154, v155, v156, v157, v158, v159, v160, v161, v162, v163, v164, v165, v166, v167, v168, v169, v170, v171, v172, v173, v174, v175, v176, (.agg #[(Fl r185), (Fl r187), (Fl r189), (Fl r7), (Iv (nth L_ct 0)), (Iv (nth L_ct 1)), (Iv (nth L_ct 2)), (.slice (some ⟨bo191, 0, none⟩) 0 0)]), (Iv (z : Int)), (Pt b195 6), (Iv (nth L_ct 2)), (Bo (icmp .lss (z : Int) (nth L_ct 2))), (u215 107), (u215 108), (u243 109), (u243 110), (u243 111), (u243 112), (u243 113), (u243 114), (u243 115), (u243 116), (u243 117), (u243 118), (u243 119), (u243 120), (u243 121), (u243 122), (u243 123), (u243 124), (u243 125), (u243 126), (u243 127), (u243 128), (u243 129), (u243 130), (u243 131), (u243 132), (u243 133), (u243 134), (u243 135), (u243 136), (u243 137), (u243 138), (u243 139), (u243 140), (u243 141), (u243 142), (u243 143), (u243 144), (u243 145), Ud, Ud, Ud, Ud] ∧ KpL [gg244, b195] w229 w' ∧ Own RF 1 22 gg244 w229.heap.size w' y8_7 (takG A_g (fC A_g L_fr) (nth L_ct 0) (nth L_ct 1) (cnt (nth L_ct 0) (nth L_ct 1) 0 y z)) ∧ Blk w' b195 [(Fl r185), (Fl r187), (Fl r189), (Fl r7), (Iv (nth L_ct 0)), (Iv (nth L_ct 1)), (Iv (nth L_ct 2)), y8_7] ∧ ((y : Int) ≤ (nth L_ct 1))) (fun y => (nth L_ct 1).toNat - y) 0 ?_ ?_
      · refine ⟨fun t => (([(.agg #[(Fl r1), (Fl r3), (Fl r5), (Fl r7), (Iv A_g.x), (Iv A_g.y), (Iv A_g.z), (.slice p11 A_g.vals.length q12)]), (.slice p_fr L_fr.length q_fr), (.slice p_ct L_ct.length q_ct), (Pt b15 0), Ud, Ud, (Pt b22 0), (Bo false), (Pt b195 0), (Iv (z : Int)), (Iv 0), (u215 11), v36, v37, v38, v39, v40, v41, v42, v43, v44, v45, v46, v47, v48, v49, v50, v51, v52, v53, v54, v55, v56, v57, v58, v59, (Bo (β3 || (!β4))), Ud, v87, v88, v89, v90, v91, v92, v93, v94, v95, v96, v97, v98, v99, v100, v101, v102, v103, v104, v105, v106, v107, v108, v109, v110, v111, v112, v113, v114, v115, v116, v117, v118, v119, v120, v121, v122, (Bo β8), Ud, v151, v152, v153, v154, v155, v156, v157, v158, v159, v160, v161, v162, v163, v164, v165, v166, v167, v168, v169, v170, v171, v172, v173, v174, v175, v176, (.agg #[(Fl r185), (Fl r187), (Fl r189), (Fl r7), (Iv (nth L_ct 0)), (Iv (nth L_ct 1)), (Iv (nth L_ct 2)), (.slice (some ⟨bo191, 0, none⟩) 0 0)]), (Iv (z : Int)), (Pt b195 6), (Iv (nth L_ct 2)), (Bo (icmp .lss (z : Int) (nth L_ct 2))), (u215 107), (u215 108), (u215 109), (u215 110), (u215 111), (u215 112), (u215 113), (u215 114), (u215 115), (u215 116), (u215 117), (u215 118), (u215 119), (u215 120), (u215 121), (u215 122), (u215 123), (u215 124), (u215 125), (u215 126), (u215 127), (u215 128), (u215 129), (u215 130), (u215 131), (u215 132), (u215 133), (u215 134), (u215 135), (u215 136), (u215 137), (u215 138), (u215 139), (u215 140), (u215 141), (u215 142), (u215 143), (u215 144), (u215 145), Ud, Ud, Ud, Ud] : List Value)[t]?).getD undef, (.slice p235 ((takG A_g (fC A_g L_fr) (nth L_ct 0) (nth L_ct 1) (cnt (nth L_ct 0) (nth L_ct 1) 0 0 z)).length) q236), rfl, KpL.refl _ _, (Own.cast hO247 (by rfl)), hB233, ?_⟩
        (try dsimp only); omega
      · rintro y a w257 ⟨u243, y8_7, rfl, E258, hO260, hB261, hy⟩
        have X262 := Below.kl X234 E258 (allS g252 (allS g200 all0)) (Nat.le_refl _)
        obtain ⟨p263, q264, rfl⟩ := Own.shape hO260
        have hH265 : Hang w124.heap.size w257 (fun u => Sl RF 1 u (.slice p263 ((takG A_g (fC A_g L_fr) (nth L_ct 0) (nth L_ct 1) (cnt (nth L_ct 0) (nth L_ct 1) 0 y z)).length) q264) (takG A_g (fC A_g L_fr) (nth L_ct 0) (nth L_ct 1) (cnt (nth L_ct 0) (nth L_ct 1) 0 y z))) := Own.hang hO260 RF.flat (by decide) hN251 (Nat.le_trans (Nat.le_trans (Nat.le_trans (Below.size E146) (Below.size E180)) (Nat.le_of_eq (Eq.symm (Wr.size W209)))) (KpL.size E230))
        refine wp_seq_k fun K266 hK266 => ?_
        refine wp_seq_k fun K267 hK267 => ?_
        refine wp_region_lit ?_
        refine q_is rfl rfl (does_move (u := (Iv (y : Int))) (ev rfl)) (by dsimp only [List.set]; try rfl) ?_
        refine q_is rfl rfl (does_fieldAddr (ev rfl) fa31_3) (by dsimp only [List.set]; try rfl) ?_
        refine q_is rfl rfl (does_load (u := (Iv (nth L_ct 1))) (ev rfl) Try.isAgg2 (Cells.at (Blk.cells hB261) 5 rfl)) (by dsimp only [List.set]; try rfl) ?_
        refine q_is rfl rfl (does_icmp (p := (y : Int)) (q := (nth L_ct 1)) (.inr (.inr (.inl rfl))) (ev rfl) (ev rfl)) (by dsimp only [List.set]; try rfl) ?_
        refine wpList_nil (hK267 _ _ ?_)
        refine wp_cond_split (t := icmp .lss (y : Int) (nth L_ct 1)) (ev rfl) (fun c268 => ?_) (fun c268 => ?_)
        · have c268' := c268
          (try simp only [hβ1, hβ2, hβ3, hβ4, hβ5, hβ6, hβ7, hβ8] at c268')
          (try simp only [icmp, Bool.and_eq_true, Bool.or_eq_true, Bool.and_eq_false_iff, Bool.or_eq_false_iff, Bool.not_eq_true', Bool.not_eq_false', decide_eq_true_eq, decide_eq_false_iff_not, beq_iff_eq, bne_iff_ne, beq_eq_false_iff_ne, bne_eq_false_iff_eq] at c268')
          refine wp_skip (hK266 _ _ ?_)
          refine wp_seq_k fun K269 hK269 => ?_
          refine wp_block ?_
          refine wp_seq_k fun K270 hK270 => ?_
          refine wp_region_lit ?_
          refine q_is rfl rfl (does_assign (u := (Iv 0)) (ev rfl)) (by dsimp only [List.set]; try rfl) ?_
          refine wpList_nil (hK270 _ _ ?_)
          refine wp_block ?_
          have n276 : b15 < w257.heap.size := Blk.lt ((((((((((hB17.ext E25).ext E33).ext E62).ext E84).ext E125).ext E146).ext E180).wr W209 (Nat.ne_of_lt n198)).kl E230 (ninS n225 (ninS (Nat.ne_of_lt n198) nin0))).kl E258 (ninS n253 (ninS (Nat.ne_of_lt n198) nin0)))
          have n277 : b22 < w257.heap.size := Blk.lt (((((((((hB24.ext E33).ext E62).ext E84).ext E125).ext E146).ext E180).wr W209 (Nat.ne_of_lt n199)).kl E230 (ninS n226 (ninS (Nat.ne_of_lt n199) nin0))).kl E258 (ninS n254 (ninS (Nat.ne_of_lt n199) nin0)))
          have n278 : b195 < w257.heap.size := Blk.lt hB261
          obtain ⟨gg272, hg273, hg274, hO275⟩ := Own.start' hO260 hO260
          have hN279 : w124.heap.size ≤ gg272 := by rcases hg273 with h | h; exact h ▸ hN251; exact Nat.le_trans (Nat.le_trans (Nat.le_trans (Nat.le_trans (Below.size E146) (Below.size E180)) (Nat.le_of_eq (Eq.symm (Wr.size W209)))) (KpL.size E230)) h
          have g280 : w.heap.size ≤ gg272 := Nat.le_trans (Below.size (Ext.gr (Ext.gr (Ext.gr (Ext.gr (Ext.gr (Ext.gr (Ext.refl _) E18) E25) E33) E62) E84) E125)) hN279
          have n281 : b15 ≠ gg272 := hg273.elim (fun h => by rw [h]; exact n253) (fun h => Nat.ne_of_lt (Nat.lt_of_lt_of_le n248 h))
          have n282 : b22 ≠ gg272 := hg273.elim (fun h => by rw [h]; exact n254) (fun h => Nat.ne_of_lt (Nat.lt_of_lt_of_le n249 h))
          have n283 : b195 ≠ gg272 := hg273.elim (fun h => by rw [h]; exact n255) (fun h => Nat.ne_of_lt (Nat.lt_of_lt_of_le n250 h))
          have hg284 : gg272 < w257.heap.size := by rcases hg274 with h | h; exact h ▸ Nat.lt_of_lt_of_le hg256 (KpL.size E258); exact h
          refine loop_ghost (σ := Nat) (fun x a w' => ∃ u271 : Nat → Value, ∃ y8_7 : Value, a = fr [(.agg #[(Fl r1), (Fl r3), (Fl r5), (Fl r7), (Iv A_g.x), (Iv A_g.y), (Iv A_g.z), (.slice p11 A_g.vals.length q12)]), (.slice p_fr L_fr.length q_fr), (.slice p_ct L_ct.length q_ct), (Pt b15 0), Ud, Ud, (Pt b22 0), (Bo false), (Pt b195 0), (Iv (z : Int)), (Iv (y : Int)), (Iv (x : Int)), v36, v37, v38, v39, v40, v41, v42, v43, v44, v45, v46, v47, v48, v49, v50, v51, v52, v53, v54, v55, v56, v57, v58, v59, (Bo (β3 || (!β4))), Ud, v87, v88, v89, v90, v91, v92, v93, v94, v95, v96, v97, v98, v99, v100, v101, v102, v103, v104, v105, v106, v107, v108, v109, v110, v111, v112, v113, v114, v115, v116, v117, v118, v119, v120, v121, v122, (Bo β8), Ud, v151, v152, v153, v154, v155, v156, v157, v158, v159, v160, v161, v162, v163, v164, v165, v166, v167, v168, v169, v170, v171, v172, v173, v174, v175, v176, (.agg #[(Fl r185), (Fl r187), (Fl r189), (Fl r7), (Iv (nth L_ct 0)), (Iv (nth L_ct 1)), (Iv (nth L_ct 2)), (.slice (some ⟨bo191, 0, none⟩) 0 0)]), (Iv (z : Int)), (Pt b195 6), (Iv (nth L_ct 2)), (Bo (icmp .lss (z : Int) (nth L_ct 2))), (u215 107), (u215 108), (Iv (y : Int)), (Pt b195 5), (Iv (nth L_ct 1)), (Bo (icmp .lss (y : Int) (nth L_ct 1))), (u243 113), (u243 114), (u271 115), (u271 116), (u271 117), (u271 118), (u271 119), (u271 120), (u271 121), (u271 122), (u271 123), (u271 124), (u271 125), (u271 126), (u271 127), (u271 128), (u271 129), (u271 130), (u271 131), (u271 132), (u271 133), (u271 134), (u271 135), (u271 136), (u271 137), (u271 138), (u271 139), (u271 140), (u271 141), (u271 142), (u271 143), (u271 144), (u271 145), Ud, Ud, Ud, Ud] ∧ KpL [gg272, b195] w257 w' ∧ Own RF 1 22 gg272 w257.heap.size w' y8_7 (takG A_g (fC A_g L_fr) (nth L_ct 0) (nth L_ct 1) (cnt (nth L_ct 0) (nth L_ct 1) x y z)) ∧ Blk w' b195 [(Fl r185), (Fl r187), (Fl r189), (Fl r7), (Iv (nth L_ct 0)), (Iv (nth L_ct 1)), (Iv (nth L_ct 2)), y8_7] ∧ ((x : Int) ≤ (nth L_ct 0))) (fun x => (nth L_ct 0).toNat - x) 0 ?_ ?_
          · refine ⟨fun t => (([(.agg #[(Fl r1), (Fl r3), (Fl r5), (Fl r7), (Iv A_g.x), (Iv A_g.y), (Iv A_g.z), (.slice p11 A_g.vals.length q12)]), (.slice p_fr L_fr.length q_fr), (.slice p_ct L_ct.length q_ct), (Pt b15 0), Ud, Ud, (Pt b22 0), (Bo false), (Pt b195 0), (Iv (z : Int)), (Iv (y : Int)), (Iv 0), v36, v37, v38, v39, v40, v41, v42, v43, v44, v45, v46, v47, v48, v49, v50, v51, v52, v53, v54, v55, v56, v57, v58, v59, (Bo (β3 || (!β4))), Ud, v87, v88, v89, v90, v91, v92, v93, v94, v95, v96, v97, v98, v99, v100, v101, v102, v103, v104, v105, v106, v107, v108, v109, v110, v111, v112, v113, v114, v115, v116, v117, v118, v119, v120, v121, v122, (Bo β8), Ud, v151, v152, v153, v154, v155, v156, v157, v158, v159, v160, v161, v162, v163, v164, v165, v166, v167, v168, v169, v170, v171, v172, v173, v174, v175, v176, (.agg #[(Fl r185), (Fl r187), (Fl r189), (Fl r7), (Iv (nth L_ct 0)), (Iv (nth L_ct 1)), (Iv (nth L_ct 2)), (.slice (some ⟨bo191, 0, none⟩) 0 0)]), (Iv (z : Int)), (Pt b195 6), (Iv (nth L_ct 2)), (Bo (icmp .lss (z : Int) (nth L_ct 2))), (u215 107), (u215 108), (Iv (y : Int)), (Pt b195 5), (Iv (nth L_ct 1)), (Bo (icmp .lss (y : Int) (nth L_ct 1))), (u243 113), (u243 114), (u243 115), (u243 116), (u243 117), (u243 118), (u243 119), (u243 120), (u243 121), (u243 122), (u243 123), (u243 124), (u243 125), (u243 126), (u243 127), (u243 128), (u243 129), (u243 130), (u243 131), (u243 132), (u243 133), (u243 134), (u243 135), (u243 136), (u243 137), (u243 138), (u243 139), (u243 140), (u243 141), (u243 142), (u243 143), (u243 144), (u243 145), Ud, Ud, Ud, Ud] : List Value)[t]?).getD undef, (.slice p263 ((takG A_g (fC A_g L_fr) (nth L_ct 0) (nth L_ct 1) (cnt (nth L_ct 0) (nth L_ct 1) 0 y z)).length) q264), rfl, KpL.refl _ _, (Own.cast hO275 (by rfl)), hB261, ?_⟩
            (try dsimp only); omega
          · rintro x a w285 ⟨u271, y8_7, rfl, E286, hO288, hB289, hx⟩
            have X290 := Below.kl X262 E286 (allS g280 (allS g200 all0)) (Nat.le_refl _)
            obtain ⟨p291, q292, rfl⟩ := Own.shape hO288
            have hH293 : Hang w124.heap.size w285 (fun u => Sl RF 1 u (.slice p291 ((takG A_g (fC A_g L_fr) (nth L_ct 0) (nth L_ct 1) (cnt (nth L_ct 0) (nth L_ct 1) x y z)).length) q292) (takG A_g (fC A_g L_fr) (nth L_ct 0) (nth L_ct 1) (cnt (nth L_ct 0) (nth L_ct 1) x y z))) := Own.hang hO288 RF.flat (by decide) hN279 (Nat.le_trans (Nat.le_trans (Nat.le_trans (Nat.le_trans (Below.size E146) (Below.size E180)) (Nat.le_of_eq (Eq.symm (Wr.size W209)))) (KpL.size E230)) (KpL.size E258))
            have hcl := tak_len (g := A_g) (f := (fC A_g L_fr)) (c0 := (nth L_ct 0)) (c1 := (nth L_ct 1)) (x := x) (y := y) (z := z) (by omega) (by omega) (by omega) (by omega) (by omega)
            refine wp_seq_k fun K294 hK294 => ?_
            refine wp_seq_k fun K295 hK295 => ?_
            refine wp_region_lit ?_
            refine q_is rfl rfl (does_move (u := (Iv (x : Int))) (ev rfl)) (by dsimp only [List.set]; try rfl) ?_
            refine q_is rfl rfl (does_fieldAddr (ev rfl) fa31_2) (by dsimp only [List.set]; try rfl) ?_
            refine q_is rfl rfl (does_load (u := (Iv (nth L_ct 0))) (ev rfl) Try.isAgg2 (Cells.at (Blk.cells hB289) 4 rfl)) (by dsimp only [List.set]; try rfl) ?_
            refine q_is rfl rfl (does_icmp (p := (x : Int)) (q := (nth L_ct 0)) (.inr (.inr (.inl rfl))) (ev rfl) (ev rfl)) (by dsimp only [List.set]; try rfl) ?_
            refine wpList_nil (hK295 _ _ ?_)
            refine wp_cond_split (t := icmp .lss (x : Int) (nth L_ct 0)) (ev rfl) (fun c296 => ?_) (fun c296 => ?_)
            · have c296' := c296
              (try simp only [hβ1, hβ2, hβ3, hβ4, hβ5, hβ6, hβ7, hβ8] at c296')
              (try simp only [icmp, Bool.and_eq_true, Bool.or_eq_true, Bool.and_eq_false_iff, Bool.or_eq_false_iff, Bool.not_eq_true', Bool.not_eq_false', decide_eq_true_eq, decide_eq_false_iff_not, beq_iff_eq, bne_iff_ne, beq_eq_false_iff_ne, bne_eq_false_iff_eq] at c296')
              have hix := fC_ok hca (x := (x : Int)) (y := (y : Int)) (z := (z : Int)) ⟨by omega, by omega⟩ ⟨by omega, by omega⟩ ⟨by omega, by omega⟩
              simp only [fC] at hix
              refine wp_skip (hK294 _ _ ?_)
              refine wp_seq_k fun K297 hK297 => ?_
              refine wp_block ?_
              obtain ⟨el1, hel1⟩ : ∃ e, A_g.vals[(idxG A_g (IntKind.i64.wrap ((nth L_fr 0) + (x : Int))) (IntKind.i64.wrap ((nth L_fr 1) + (y : Int))) (IntKind.i64.wrap ((nth L_fr 2) + (z : Int)))).toNat]? = some e := ⟨_, List.getElem?_eq_getElem (by omega)⟩
              refine region_any2 [] [0, 1, 0, 4, 0, 16, 48, 0, 240, 0, 512, 1536, 0, 7680, 0, 16384, 49152, 0, 245760, 524272, 1048572, 2097148, 4194300, 8388607, 16777215, 33554431] [] (
                [FactW.pure [] [] [] true (fun v => v = (Pt b195 7)),
                  FactW.pure [0] [] [] true (fun v => v = (.slice p291 ((takG A_g (fC A_g L_fr) (nth L_ct 0) (nth L_ct 1) (cnt (nth L_ct 0) (nth L_ct 1) x y z)).length) q292)),
                  FactW.pure [] [] [] true (fun v => v = (Pt b15 7)),
                  FactW.pure [2] [] [] true (fun v => v = (.slice p11 A_g.vals.length q12)),
                  FactW.pure [] [] [] true (fun v => v = (.slice p_fr L_fr.length q_fr)),
                  FactW.mem [4] [] [] [] true (fun v w' => PtrR RI w' v (nth L_fr 0)) (by intro v w1 w2 hx' h; have hx := KpL.toExt hx'; exact h.ext RI.mono hx),
                  FactW.pure [5] [] [] true (fun v => v = (Iv (nth L_fr 0))),
                  FactW.pure [] [] [] true (fun v => v = (Iv (x : Int))),
                  FactW.pure [6, 7] [] [] true (fun v => v = (Iv (IntKind.i64.wrap ((nth L_fr 0) + (x : Int))))),
                  FactW.pure [] [] [] true (fun v => v = (.slice p_fr L_fr.length q_fr)),
                  FactW.mem [9] [] [] [] true (fun v w' => PtrR RI w' v (nth L_fr 1)) (by intro v w1 w2 hx' h; have hx := KpL.toExt hx'; exact h.ext RI.mono hx),
                  FactW.pure [10] [] [] true (fun v => v = (Iv (nth L_fr 1))),
                  FactW.pure [] [] [] true (fun v => v = (Iv (y : Int))),
                  FactW.pure [11, 12] [] [] true (fun v => v = (Iv (IntKind.i64.wrap ((nth L_fr 1) + (y : Int))))),
                  FactW.pure [] [] [] true (fun v => v = (.slice p_fr L_fr.length q_fr)),
                  FactW.mem [14] [] [] [] true (fun v w' => PtrR RI w' v (nth L_fr 2)) (by intro v w1 w2 hx' h; have hx := KpL.toExt hx'; exact h.ext RI.mono hx),
                  FactW.pure [15] [] [] true (fun v => v = (Iv (nth L_fr 2))),
                  FactW.pure [] [] [] true (fun v => v = (Iv (z : Int))),
                  FactW.pure [16, 17] [] [] true (fun v => v = (Iv (IntKind.i64.wrap ((nth L_fr 2) + (z : Int))))),
                  FactW.pure [8, 13, 18] [] [] true (fun v => v = (Iv (idxG A_g (IntKind.i64.wrap ((nth L_fr 0) + (x : Int))) (IntKind.i64.wrap ((nth L_fr 1) + (y : Int))) (IntKind.i64.wrap ((nth L_fr 2) + (z : Int)))))),
                  FactW.mem [3, 19] [] [] [] true (fun v w' => PtrR RF w' v el1) (by intro v w1 w2 hx' h; have hx := KpL.toExt hx'; exact h.ext RF.mono hx),
                  FactW.pure [20] [] [] true (fun v => ∃ r_1 : Nat, v = (Fl r_1) ∧ cf .f32 r_1 = el1),
                  FactW.mem [21] [] [] [] true (fun v w' => ∃ b : Nat, ∃ r_1 : Nat, v = .slice (some ⟨b, 0, none⟩) 1 1 ∧ w285.heap.size ≤ b ∧ Blk w' b [(Fl r_1)] ∧ cf .f32 r_1 = el1) (by rintro v w1 w2 hx' ⟨b, z0, rfl, hb, hB, k0⟩; have hx := KpL.toExt hx'; exact ⟨b, z0, rfl, hb, (hB.ext hx), k0⟩)]) mixed (by kernel_rfl) ?_
              obtain ⟨w298, hw300⟩ : ∃ w', w' = World.drew w285 := ⟨_, rfl⟩; rw [← hw300]; have E299 : Ext w285 w298 := by rw [hw300]; exact Ext.draw _
              clear hw300
              have X301 := Ext.gr X290 E299
              refine RW2_d _ rfl (fun v => by dsimp only [List.set]; try rfl) (fun u hu hF => ?_) (fun v302 => ?_)
              · replace hu : KpL [] _ _ := hu
                clear hF
                refine doesG_un rfl ?_
                refine (does_fieldAddr (ev rfl) fa31_5).mono ?_; rintro _ _ ⟨rfl, rfl⟩
                exact ⟨rfl, KpL.refl _ _⟩
              refine RW2_d _ rfl (fun v => by dsimp only [List.set]; try rfl) (fun u hu hF => ?_) (fun v303 => ?_)
              · replace hu : KpL [] _ _ := hu
                have h121_ : v302 = (Pt b195 7) := hF.1
                clear hF
                refine doesG_un rfl ?_
                obtain rfl := h121_
                refine (does_load (u := (.slice p291 ((takG A_g (fC A_g L_fr) (nth L_ct 0) (nth L_ct 1) (cnt (nth L_ct 0) (nth L_ct 1) x y z)).length) q292)) (ev rfl) Try.isAgg25 (Cells.at (Blk.cells ((hB289.ext E299).ext (KpL.toExt hu))) 7 rfl)).mono ?_; rintro _ _ ⟨rfl, rfl⟩
                exact ⟨rfl, KpL.refl _ _⟩
              refine RW2_d _ rfl (fun v => by dsimp only [List.set]; try rfl) (fun u hu hF => ?_) (fun v304 => ?_)
              · replace hu : KpL [] _ _ := hu
                clear hF
                refine doesG_un rfl ?_
                refine (does_fieldAddr (ev rfl) fa31_5).mono ?_; rintro _ _ ⟨rfl, rfl⟩
                exact ⟨rfl, KpL.refl _ _⟩
              refine RW2_d _ rfl (fun v => by dsimp only [List.set]; try rfl) (fun u hu hF => ?_) (fun v305 => ?_)
              · replace hu : KpL [] _ _ := hu
                have h123_ : v304 = (Pt b15 7) := hF.1
                clear hF
                refine doesG_un rfl ?_
                obtain rfl := h123_
                refine (does_load (u := (.slice p11 A_g.vals.length q12)) (ev rfl) Try.isAgg25 (Cells.at (Blk.cells (((((((((((((hB17.ext E25).ext E33).ext E62).ext E84).ext E125).ext E146).ext E180).wr W209 (Nat.ne_of_lt n198)).kl E230 (ninS n225 (ninS (Nat.ne_of_lt n198) nin0))).kl E258 (ninS n253 (ninS (Nat.ne_of_lt n198) nin0))).kl E286 (ninS n281 (ninS (Nat.ne_of_lt n198) nin0))).ext E299).ext (KpL.toExt hu))) 7 rfl)).mono ?_; rintro _ _ ⟨rfl, rfl⟩
                exact ⟨rfl, KpL.refl _ _⟩
              refine RW2_d _ rfl (fun v => by dsimp only [List.set]; try rfl) (fun u hu hF => ?_) (fun v306 => ?_)
              · replace hu : KpL [] _ _ := hu
                clear hF
                refine doesG_un rfl ?_
                refine (does_move (u := (.slice p_fr L_fr.length q_fr)) (ev rfl)).mono ?_; rintro _ _ ⟨rfl, rfl⟩
                exact ⟨rfl, KpL.refl _ _⟩
              refine RW2_d _ rfl (fun v => by dsimp only [List.set]; try rfl) (fun u hu hF => ?_) (fun v307 => ?_)
              · replace hu : KpL [] _ _ := hu
                have h125_ : v306 = (.slice p_fr L_fr.length q_fr) := hF.1
                clear hF
                refine doesG_un rfl ?_
                obtain rfl := h125_
                refine (does_indexSl (R := RI) (i := 0) (xs := L_fr) (e := (nth L_fr 0)) Try.underlying38 Try.sizeOf2 (ev rfl) (ev rfl) (Sl.ext hv_fr RI.mono (Ext.gr (Ext.gr X290 E299) (KpL.toExt hu))) (by omega) (nth_some (by first | omega | (simp only [icmp, Bool.or_eq_false_iff, Bool.not_eq_false', Bool.not_eq_true', bne_eq_false_iff_eq] at hg1; omega)))).mono ?_; rintro v u' ⟨b, of, cs, hv, hc, hR, hu'⟩; subst hu'
                exact ⟨⟨b, of, cs, hv, hc, hR⟩, KpL.refl _ _⟩
              refine RW2_d _ rfl (fun v => by dsimp only [List.set]; try rfl) (fun u hu hF => ?_) (fun v308 => ?_)
              · replace hu : KpL [] _ _ := hu
                have h126_ : PtrR RI u v307 (nth L_fr 0) := hF.1
                clear hF
                refine doesG_un rfl ?_
                obtain ⟨b126_, o126_, _, rfl, hc126_, rfl⟩ := h126_
                refine (does_load (u := (Iv (nth L_fr 0))) (ev rfl) Try.isAgg2 (Cells.at hc126_ 0 rfl)).mono ?_; rintro _ _ ⟨rfl, rfl⟩
                exact ⟨rfl, KpL.refl _ _⟩
              refine RW2_d _ rfl (fun v => by dsimp only [List.set]; try rfl) (fun u hu hF => ?_) (fun v309 => ?_)
              · replace hu : KpL [] _ _ := hu
                clear hF
                refine doesG_un rfl ?_
                refine (does_move (u := (Iv (x : Int))) (ev rfl)).mono ?_; rintro _ _ ⟨rfl, rfl⟩
                exact ⟨rfl, KpL.refl _ _⟩
              refine RW2_d _ rfl (fun v => by dsimp only [List.set]; try rfl) (fun u hu hF => ?_) (fun v310 => ?_)
              · replace hu : KpL [] _ _ := hu
                have h127_ : v308 = (Iv (nth L_fr 0)) := hF.1
                have h128_ : v309 = (Iv (x : Int)) := hF.2.1
                clear hF
                refine doesG_un rfl ?_
                obtain rfl := h127_
                obtain rfl := h128_
                refine (does_iarith (p := (nth L_fr 0)) (q := (x : Int)) (r := IntKind.i64.wrap ((nth L_fr 0) + (x : Int))) (ev rfl) (ev rfl) (.inl ⟨rfl, rfl⟩)).mono ?_; rintro _ _ ⟨rfl, rfl⟩
                exact ⟨rfl, KpL.refl _ _⟩
              refine RW2_d _ rfl (fun v => by dsimp only [List.set]; try rfl) (fun u hu hF => ?_) (fun v311 => ?_)
              · replace hu : KpL [] _ _ := hu
                clear hF
                refine doesG_un rfl ?_
                refine (does_move (u := (.slice p_fr L_fr.length q_fr)) (ev rfl)).mono ?_; rintro _ _ ⟨rfl, rfl⟩
                exact ⟨rfl, KpL.refl _ _⟩
              refine RW2_d _ rfl (fun v => by dsimp only [List.set]; try rfl) (fun u hu hF => ?_) (fun v312 => ?_)
              · replace hu : KpL [] _ _ := hu
                have h130_ : v311 = (.slice p_fr L_fr.length q_fr) := hF.1
                clear hF
                refine doesG_un rfl ?_
                obtain rfl := h130_
                refine (does_indexSl (R := RI) (i := 1) (xs := L_fr) (e := (nth L_fr 1)) Try.underlying38 Try.sizeOf2 (ev rfl) (ev rfl) (Sl.ext hv_fr RI.mono (Ext.gr (Ext.gr X290 E299) (KpL.toExt hu))) (by omega) (nth_some (by first | omega | (simp only [icmp, Bool.or_eq_false_iff, Bool.not_eq_false', Bool.not_eq_true', bne_eq_false_iff_eq] at hg1; omega)))).mono ?_; rintro v u' ⟨b, of, cs, hv, hc, hR, hu'⟩; subst hu'
                exact ⟨⟨b, of, cs, hv, hc, hR⟩, KpL.refl _ _⟩
              refine RW2_d _ rfl (fun v => by dsimp only [List.set]; try rfl) (fun u hu hF => ?_) (fun v313 => ?_)
              · replace hu : KpL [] _ _ := hu
                have h131_ : PtrR RI u v312 (nth L_fr 1) := hF.1
                clear hF
                refine doesG_un rfl ?_
                obtain ⟨b131_, o131_, _, rfl, hc131_, rfl⟩ := h131_
                refine (does_load (u := (Iv (nth L_fr 1))) (ev rfl) Try.isAgg2 (Cells.at hc131_ 0 rfl)).mono ?_; rintro _ _ ⟨rfl, rfl⟩
                exact ⟨rfl, KpL.refl _ _⟩
              refine RW2_d _ rfl (fun v => by dsimp only [List.set]; try rfl) (fun u hu hF => ?_) (fun v314 => ?_)
              · replace hu : KpL [] _ _ := hu
                clear hF
                refine doesG_un rfl ?_
                refine (does_move (u := (Iv (y : Int))) (ev rfl)).mono ?_; rintro _ _ ⟨rfl, rfl⟩
                exact ⟨rfl, KpL.refl _ _⟩
              refine RW2_d _ rfl (fun v => by dsimp only [List.set]; try rfl) (fun u hu hF => ?_) (fun v315 => ?_)
              · replace hu : KpL [] _ _ := hu
                have h132_ : v313 = (Iv (nth L_fr 1)) := hF.1
                have h133_ : v314 = (Iv (y : Int)) := hF.2.1
                clear hF
                refine doesG_un rfl ?_
                obtain rfl := h132_
                obtain rfl := h133_
                refine (does_iarith (p := (nth L_fr 1)) (q := (y : Int)) (r := IntKind.i64.wrap ((nth L_fr 1) + (y : Int))) (ev rfl) (ev rfl) (.inl ⟨rfl, rfl⟩)).mono ?_; rintro _ _ ⟨rfl, rfl⟩
                exact ⟨rfl, KpL.refl _ _⟩
              refine RW2_d _ rfl (fun v => by dsimp only [List.set]; try rfl) (fun u hu hF => ?_) (fun v316 => ?_)
              · replace hu : KpL [] _ _ := hu
                clear hF
                refine doesG_un rfl ?_
                refine (does_move (u := (.slice p_fr L_fr.length q_fr)) (ev rfl)).mono ?_; rintro _ _ ⟨rfl, rfl⟩
                exact ⟨rfl, KpL.refl _ _⟩
              refine RW2_d _ rfl (fun v => by dsimp only [List.set]; try rfl) (fun u hu hF => ?_) (fun v317 => ?_)
              · replace hu : KpL [] _ _ := hu
                have h135_ : v316 = (.slice p_fr L_fr.length q_fr) := hF.1
                clear hF
                refine doesG_un rfl ?_
                obtain rfl := h135_
                refine (does_indexSl (R := RI) (i := 2) (xs := L_fr) (e := (nth L_fr 2)) Try.underlying38 Try.sizeOf2 (ev rfl) (ev rfl) (Sl.ext hv_fr RI.mono (Ext.gr (Ext.gr X290 E299) (KpL.toExt hu))) (by omega) (nth_some (by first | omega | (simp only [icmp, Bool.or_eq_false_iff, Bool.not_eq_false', Bool.not_eq_true', bne_eq_false_iff_eq] at hg1; omega)))).mono ?_; rintro v u' ⟨b, of, cs, hv, hc, hR, hu'⟩; subst hu'
                exact ⟨⟨b, of, cs, hv, hc, hR⟩, KpL.refl _ _⟩
              refine RW2_d _ rfl (fun v => by dsimp only [List.set]; try rfl) (fun u hu hF => ?_) (fun v318 => ?_)
              · replace hu : KpL [] _ _ := hu
                have h136_ : PtrR RI u v317 (nth L_fr 2) := hF.1
                clear hF
                refine doesG_un rfl ?_
                obtain ⟨b136_, o136_, _, rfl, hc136_, rfl⟩ := h136_
                refine (does_load (u := (Iv (nth L_fr 2))) (ev rfl) Try.isAgg2 (Cells.at hc136_ 0 rfl)).mono ?_; rintro _ _ ⟨rfl, rfl⟩
                exact ⟨rfl, KpL.refl _ _⟩
              refine RW2_d _ rfl (fun v => by dsimp only [List.set]; try rfl) (fun u hu hF => ?_) (fun v319 => ?_)
              · replace hu : KpL [] _ _ := hu
                clear hF
                refine doesG_un rfl ?_
                refine (does_move (u := (Iv (z : Int))) (ev rfl)).mono ?_; rintro _ _ ⟨rfl, rfl⟩
                exact ⟨rfl, KpL.refl _ _⟩
              refine RW2_d _ rfl (fun v => by dsimp only [List.set]; try rfl) (fun u hu hF => ?_) (fun v320 => ?_)
              · replace hu : KpL [] _ _ := hu
                have h137_ : v318 = (Iv (nth L_fr 2)) := hF.1
                have h138_ : v319 = (Iv (z : Int)) := hF.2.1
                clear hF
                refine doesG_un rfl ?_
                obtain rfl := h137_
                obtain rfl := h138_
                refine (does_iarith (p := (nth L_fr 2)) (q := (z : Int)) (r := IntKind.i64.wrap ((nth L_fr 2) + (z : Int))) (ev rfl) (ev rfl) (.inl ⟨rfl, rfl⟩)).mono ?_; rintro _ _ ⟨rfl, rfl⟩
                exact ⟨rfl, KpL.refl _ _⟩
              refine RW2_d _ rfl (fun v => by dsimp only [List.set]; try rfl) (fun u hu hF => ?_) (fun v321 => ?_)
              · replace hu : KpL [] _ _ := hu
                have h129_ : v310 = (Iv (IntKind.i64.wrap ((nth L_fr 0) + (x : Int)))) := hF.1
                have h134_ : v315 = (Iv (IntKind.i64.wrap ((nth L_fr 1) + (y : Int)))) := hF.2.1
                have h139_ : v320 = (Iv (IntKind.i64.wrap ((nth L_fr 2) + (z : Int)))) := hF.2.2.1
                clear hF
                refine doesG_un rfl ?_
                obtain rfl := h129_
                obtain rfl := h134_
                obtain rfl := h139_
                refine (does_call (args := #[(Pt b15 0), (Iv (IntKind.i64.wrap ((nth L_fr 0) + (x : Int)))), (Iv (IntKind.i64.wrap ((nth L_fr 1) + (y : Int)))), (Iv (IntKind.i64.wrap ((nth L_fr 2) + (z : Int))))]) cal25 (evs rfl) (c_spec_l06Index b15 0 [(Fl r1), (Fl r3), (Fl r5), (Fl r7), (Iv A_g.x), (Iv A_g.y), (Iv A_g.z), (.slice p11 A_g.vals.length q12)] A_g (IntKind.i64.wrap ((nth L_fr 0) + (x : Int))) (IntKind.i64.wrap ((nth L_fr 1) + (y : Int))) (IntKind.i64.wrap ((nth L_fr 2) + (z : Int))) _ (Blk.cells (((((((((((((hB17.ext E25).ext E33).ext E62).ext E84).ext E125).ext E146).ext E180).wr W209 (Nat.ne_of_lt n198)).kl E230 (ninS n225 (ninS (Nat.ne_of_lt n198) nin0))).kl E258 (ninS n253 (ninS (Nat.ne_of_lt n198) nin0))).kl E286 (ninS n281 (ninS (Nat.ne_of_lt n198) nin0))).ext E299).ext (KpL.toExt hu))) ⟨r1, r3, r5, r7, (.slice p11 A_g.vals.length q12), rfl, h2, h4, h6, h8, (Sl.ext hs13 RF.mono (Ext.gr (Ext.gr X290 E299) (KpL.toExt hu)))⟩)).mono ?_; rintro v u' ⟨hx, hv⟩
                exact ⟨hv, (KpL.of_ext hx)⟩
              refine RW2_d _ rfl (fun v => by dsimp only [List.set]; try rfl) (fun u hu hF => ?_) (fun v322 => ?_)
              · replace hu : KpL [] _ _ := hu
                have h124_ : v305 = (.slice p11 A_g.vals.length q12) := hF.1
                have h140_ : v321 = (Iv (idxG A_g (IntKind.i64.wrap ((nth L_fr 0) + (x : Int))) (IntKind.i64.wrap ((nth L_fr 1) + (y : Int))) (IntKind.i64.wrap ((nth L_fr 2) + (z : Int))))) := hF.2.1
                clear hF
                refine doesG_un rfl ?_
                obtain rfl := h124_
                obtain rfl := h140_
                refine (does_indexSl (R := RF) (i := idxG A_g (IntKind.i64.wrap ((nth L_fr 0) + (x : Int))) (IntKind.i64.wrap ((nth L_fr 1) + (y : Int))) (IntKind.i64.wrap ((nth L_fr 2) + (z : Int)))) (xs := A_g.vals) (e := el1) Try.underlying25 Try.sizeOf22 (ev rfl) (ev rfl) (Sl.ext hs13 RF.mono (Ext.gr (Ext.gr X290 E299) (KpL.toExt hu))) (by omega) hel1).mono ?_; rintro v u' ⟨b, of, cs, hv, hc, hR, hu'⟩; subst hu'
                exact ⟨⟨b, of, cs, hv, hc, hR⟩, KpL.refl _ _⟩
              refine RW2_d _ rfl (fun v => by dsimp only [List.set]; try rfl) (fun u hu hF => ?_) (fun v323 => ?_)
              · replace hu : KpL [] _ _ := hu
                have h141_ : PtrR RF u v322 el1 := hF.1
                clear hF
                refine doesG_un rfl ?_
                obtain ⟨b141_, o141_, _, rfl, hc141_, ⟨r141_1, rfl, h141_2⟩⟩ := h141_
                refine (does_load (u := (Fl r141_1)) (ev rfl) Try.isAgg22 (Cells.at hc141_ 0 rfl)).mono ?_; rintro _ _ ⟨rfl, rfl⟩
                exact ⟨⟨r141_1, rfl, (by simp only [h141_2])⟩, KpL.refl _ _⟩
              refine RW2_d _ rfl (fun v => by dsimp only [List.set]; try rfl) (fun u hu hF => ?_) (fun v324 => ?_)
              · replace hu : KpL [] _ _ := hu
                have h142_ : ∃ r_1 : Nat, v323 = (Fl r_1) ∧ cf .f32 r_1 = el1 := hF.1
                clear hF
                refine doesG_un rfl ?_
                obtain ⟨r142_1, rfl, h142_2⟩ := h142_
                refine (does_buildSlice (e := 22) (parts' := [(0, (Fl r142_1))]) (cells := [(Fl r142_1)]) (evp rfl) (fun _ => by kernel_rfl)).mono ?_; rintro _ _ ⟨b, rfl, hb, hB, hx⟩
                exact ⟨⟨b, r142_1, rfl, Nat.le_trans (Nat.le_trans (Below.size E299) (KpL.size hu)) hb, hB, (by simp only [h142_2])⟩, (KpL.of_ext hx)⟩
              refine RW2_fin ?_; intro w325 E326 hP327; replace E326 : KpL [] _ _ := E326
              obtain ⟨⟨⟨⟨⟨⟨⟨⟨⟨⟨⟨⟨⟨⟨⟨⟨⟨⟨⟨⟨⟨⟨⟨-, -⟩, q328⟩, -⟩, -⟩, -⟩, -⟩, -⟩, -⟩, -⟩, -⟩, -⟩, -⟩, -⟩, -⟩, -⟩, -⟩, -⟩, -⟩, -⟩, -⟩, -⟩, -⟩, q329⟩ := hP327
              have X330 := Below.kl X301 E326 all0 (Nat.le_refl _)
              have q328 : v303 = (.slice p291 ((takG A_g (fC A_g L_fr) (nth L_ct 0) (nth L_ct 1) (cnt (nth L_ct 0) (nth L_ct 1) x y z)).length) q292) := q328 rfl
              obtain rfl := q328
              have q329 : ∃ b : Nat, ∃ r_1 : Nat, v324 = .slice (some ⟨b, 0, none⟩) 1 1 ∧ w285.heap.size ≤ b ∧ Blk w325 b [(Fl r_1)] ∧ cf .f32 r_1 = el1 := q329 rfl
              obtain ⟨b331, r334, rfl, hb332, hB333, h335⟩ := q329
              have n336 : b15 < b331 := Nat.lt_of_lt_of_le (Blk.lt (((((((((((hB17.ext E25).ext E33).ext E62).ext E84).ext E125).ext E146).ext E180).wr W209 (Nat.ne_of_lt n198)).kl E230 (ninS n225 (ninS (Nat.ne_of_lt n198) nin0))).kl E258 (ninS n253 (ninS (Nat.ne_of_lt n198) nin0))).kl E286 (ninS n281 (ninS (Nat.ne_of_lt n198) nin0)))) hb332
              have n337 : b22 < b331 := Nat.lt_of_lt_of_le (Blk.lt ((((((((((hB24.ext E33).ext E62).ext E84).ext E125).ext E146).ext E180).wr W209 (Nat.ne_of_lt n199)).kl E230 (ninS n226 (ninS (Nat.ne_of_lt n199) nin0))).kl E258 (ninS n254 (ninS (Nat.ne_of_lt n199) nin0))).kl E286 (ninS n282 (ninS (Nat.ne_of_lt n199) nin0)))) hb332
              have n338 : b195 < b331 := Nat.lt_of_lt_of_le (Blk.lt hB289) hb332
              have g339 : w.heap.size ≤ b331 := Nat.le_trans (Below.size X290) hb332
              show wpList _ _ _ _ (fr [(.agg #[(Fl r1), (Fl r3), (Fl r5), (Fl r7), (Iv A_g.x), (Iv A_g.y), (Iv A_g.z), (.slice p11 A_g.vals.length q12)]), (.slice p_fr L_fr.length q_fr), (.slice p_ct L_ct.length q_ct), (Pt b15 0), Ud, Ud, (Pt b22 0), (Bo false), (Pt b195 0), (Iv (z : Int)), (Iv (y : Int)), (Iv (x : Int)), v36, v37, v38, v39, v40, v41, v42, v43, v44, v45, v46, v47, v48, v49, v50, v51, v52, v53, v54, v55, v56, v57, v58, v59, (Bo (β3 || (!β4))), Ud, v87, v88, v89, v90, v91, v92, v93, v94, v95, v96, v97, v98, v99, v100, v101, v102, v103, v104, v105, v106, v107, v108, v109, v110, v111, v112, v113, v114, v115, v116, v117, v118, v119, v120, v121, v122, (Bo β8), Ud, v151, v152, v153, v154, v155, v156, v157, v158, v159, v160, v161, v162, v163, v164, v165, v166, v167, v168, v169, v170, v171, v172, v173, v174, v175, v176, (.agg #[(Fl r185), (Fl r187), (Fl r189), (Fl r7), (Iv (nth L_ct 0)), (Iv (nth L_ct 1)), (Iv (nth L_ct 2)), (.slice (some ⟨bo191, 0, none⟩) 0 0)]), (Iv (z : Int)), (Pt b195 6), (Iv (nth L_ct 2)), (Bo (icmp .lss (z : Int) (nth L_ct 2))), (u215 107), (u215 108), (Iv (y : Int)), (Pt b195 5), (Iv (nth L_ct 1)), (Bo (icmp .lss (y : Int) (nth L_ct 1))), (u243 113), (u243 114), (Iv (x : Int)), (Pt b195 4), (Iv (nth L_ct 0)), (Bo (icmp .lss (x : Int) (nth L_ct 0))), (u271 119), (u271 120), v302, (.slice p291 ((takG A_g (fC A_g L_fr) (nth L_ct 0) (nth L_ct 1) (cnt (nth L_ct 0) (nth L_ct 1) x y z)).length) q292), v304, v305, v306, v307, v308, v309, v310, v311, v312, v313, v314, v315, v316, v317, v318, v319, v320, v321, v322, v323, (.slice (some ⟨b331, 0, none⟩) 1 1), (u271 144), (u271 145), Ud, Ud, Ud, Ud]) _
              refine seqd rfl rfl (does_append (R := RF) (k := 1) (g0 := gg272) (B := w257.heap.size) (xs := (takG A_g (fC A_g L_fr) (nth L_ct 0) (nth L_ct 1) (cnt (nth L_ct 0) (nth L_ct 1) x y z))) (ys := [(cf .f32 r334)]) Try.underlying25 inf22 rfl (by decide) (ev rfl) (ev rfl) (Own.same hO288 RF.flat (((Same.refl _ _).ext E299).kl E326 all0) hN279 (Nat.le_trans (Nat.le_trans (Nat.le_trans (Nat.le_trans (Below.size E146) (Below.size E180)) (Nat.le_of_eq (Eq.symm (Wr.size W209)))) (KpL.size E230)) (KpL.size E258))) RF.flat hB333 rfl rfl rfl (fun i x hi => lit1 (R := RF) (cs := [(Fl r334)]) (y := (cf .f32 r334))  (⟨_, rfl, rfl⟩) i x hi) (by first | (simp only [List.length_append, List.length_cons, List.length_nil]; omega) | omega) (Nat.le_trans (Nat.le_trans (KpL.size E286) (Below.size E299)) (KpL.size E326))) ?_; rintro y' w340 ⟨gg341, hg342, K343, hO344⟩
              have hN345 : w124.heap.size ≤ gg341 := by rcases hg342 with h | h; exact h ▸ hN279; exact Nat.le_trans (Nat.le_trans (Nat.le_trans (Nat.le_trans (Nat.le_trans (Below.size E146) (Below.size E180)) (Nat.le_of_eq (Eq.symm (Wr.size W209)))) (KpL.size E230)) (KpL.size E258)) h
              have g346 : w.heap.size ≤ gg341 := Nat.le_trans (Below.size (Ext.gr (Ext.gr (Ext.gr (Ext.gr (Ext.gr (Ext.gr (Ext.refl _) E18) E25) E33) E62) E84) E125)) hN345
              have n347 : b15 ≠ gg341 := hg342.elim (fun h => by rw [h]; exact n281) (fun h => Nat.ne_of_lt (Nat.lt_of_lt_of_le n276 h))
              have n348 : b22 ≠ gg341 := hg342.elim (fun h => by rw [h]; exact n282) (fun h => Nat.ne_of_lt (Nat.lt_of_lt_of_le n277 h))
              have n349 : b195 ≠ gg341 := hg342.elim (fun h => by rw [h]; exact n283) (fun h => Nat.ne_of_lt (Nat.lt_of_lt_of_le n278 h))
              have X350 := Below.kl X330 K343 (allS g346 all0) (Nat.le_refl _)
              obtain ⟨p351, q352, rfl⟩ := Own.shape hO344
              have hH353 : Hang w124.heap.size w340 (fun u => Sl RF 1 u (.slice p351 (((takG A_g (fC A_g L_fr) (nth L_ct 0) (nth L_ct 1) (cnt (nth L_ct 0) (nth L_ct 1) x y z)) ++ [(cf .f32 r334)]).length) q352) ((takG A_g (fC A_g L_fr) (nth L_ct 0) (nth L_ct 1) (cnt (nth L_ct 0) (nth L_ct 1) x y z)) ++ [(cf .f32 r334)])) := Own.hang hO344 RF.flat (by decide) hN279 (Nat.le_trans (Nat.le_trans (Nat.le_trans (Nat.le_trans (Below.size E146) (Below.size E180)) (Nat.le_of_eq (Eq.symm (Wr.size W209)))) (KpL.size E230)) (KpL.size E258))
              show wpList _ _ _ _ (fr [(.agg #[(Fl r1), (Fl r3), (Fl r5), (Fl r7), (Iv A_g.x), (Iv A_g.y), (Iv A_g.z), (.slice p11 A_g.vals.length q12)]), (.slice p_fr L_fr.length q_fr), (.slice p_ct L_ct.length q_ct), (Pt b15 0), Ud, Ud, (Pt b22 0), (Bo false), (Pt b195 0), (Iv (z : Int)), (Iv (y : Int)), (Iv (x : Int)), v36, v37, v38, v39, v40, v41, v42, v43, v44, v45, v46, v47, v48, v49, v50, v51, v52, v53, v54, v55, v56, v57, v58, v59, (Bo (β3 || (!β4))), Ud, v87, v88, v89, v90, v91, v92, v93, v94, v95, v96, v97, v98, v99, v100, v101, v102, v103, v104, v105, v106, v107, v108, v109, v110, v111, v112, v113, v114, v115, v116, v117, v118, v119, v120, v121, v122, (Bo β8), Ud, v151, v152, v153, v154, v155, v156, v157, v158, v159, v160, v161, v162, v163, v164, v165, v166, v167, v168, v169, v170, v171, v172, v173, v174, v175, v176, (.agg #[(Fl r185), (Fl r187), (Fl r189), (Fl r7), (Iv (nth L_ct 0)), (Iv (nth L_ct 1)), (Iv (nth L_ct 2)), (.slice (some ⟨bo191, 0, none⟩) 0 0)]), (Iv (z : Int)), (Pt b195 6), (Iv (nth L_ct 2)), (Bo (icmp .lss (z : Int) (nth L_ct 2))), (u215 107), (u215 108), (Iv (y : Int)), (Pt b195 5), (Iv (nth L_ct 1)), (Bo (icmp .lss (y : Int) (nth L_ct 1))), (u243 113), (u243 114), (Iv (x : Int)), (Pt b195 4), (Iv (nth L_ct 0)), (Bo (icmp .lss (x : Int) (nth L_ct 0))), (u271 119), (u271 120), v302, (.slice p291 ((takG A_g (fC A_g L_fr) (nth L_ct 0) (nth L_ct 1) (cnt (nth L_ct 0) (nth L_ct 1) x y z)).length) q292), v304, v305, v306, v307, v308, v309, v310, v311, v312, v313, v314, v315, v316, v317, v318, v319, v320, v321, v322, v323, (.slice (some ⟨b331, 0, none⟩) 1 1), (.slice p351 (((takG A_g (fC A_g L_fr) (nth L_ct 0) (nth L_ct 1) (cnt (nth L_ct 0) (nth L_ct 1) x y z)) ++ [(cf .f32 r334)]).length) q352), (u271 145), Ud, Ud, Ud, Ud]) _
              refine q_is rfl rfl (does_fieldAddr (ev rfl) fa31_5) (by dsimp only [List.set]; try rfl) ?_
              refine seqn rfl rfl (does_store (n := 1) (cs := [(Fl r185), (Fl r187), (Fl r189), (Fl r7), (Iv (nth L_ct 0)), (Iv (nth L_ct 1)), (Iv (nth L_ct 2)), (.slice p291 ((takG A_g (fC A_g L_fr) (nth L_ct 0) (nth L_ct 1) (cnt (nth L_ct 0) (nth L_ct 1) x y z)).length) q292)]) (u := (.slice p351 (((takG A_g (fC A_g L_fr) (nth L_ct 0) (nth L_ct 1) (cnt (nth L_ct 0) (nth L_ct 1) x y z)) ++ [(cf .f32 r334)]).length) q352)) (ev rfl) (ev rfl) Try.sizeOf25 rfl (((hB289.ext E299).kl E326 nin0).kl K343 (ninS n349 nin0)) (Nat.le_of_ble_eq_true rfl) rfl) ?_; rintro _ w356 ⟨rfl, W354, hB355⟩
              change Blk _ _ [(Fl r185), (Fl r187), (Fl r189), (Fl r7), (Iv (nth L_ct 0)), (Iv (nth L_ct 1)), (Iv (nth L_ct 2)), (.slice p351 (((takG A_g (fC A_g L_fr) (nth L_ct 0) (nth L_ct 1) (cnt (nth L_ct 0) (nth L_ct 1) x y z)) ++ [(cf .f32 r334)]).length) q352)] at hB355
              have X357 := Below.wr X350 W354 g200
              refine wpList_nil (hK297 _ _ ?_)
              refine wp_region_lit ?_
              refine q_is rfl rfl (does_move (u := (Iv (x : Int))) (ev rfl)) (by dsimp only [List.set]; try rfl) ?_
              refine q_is rfl rfl (does_iarith (p := (x : Int)) (q := 1) (r := (x : Int) + 1) (ev rfl) (ev rfl) (.inl ⟨rfl, (in_i64 (by omega) (by omega)).symm⟩)) (by dsimp only [List.set]; try rfl) ?_
              refine q_is rfl rfl (does_assign (u := (Iv ((x : Int) + 1))) (ev rfl)) (by dsimp only [List.set]; try rfl) ?_
              refine wpList_nil ?_
              have hO358 := Own.cast (ys := ((fun (x : Nat) => takG A_g (fC A_g L_fr) (nth L_ct 0) (nth L_ct 1) (cnt (nth L_ct 0) (nth L_ct 1) x y z)) (x + 1))) (Own.kl hO344 RF.flat (KpL.of_wr W354) (allS ⟨n283, .inl n278⟩ all0)) (by (try dsimp only); first | exact (tak_step (by omega) (by omega) (by assumption)).symm | (simp only [h2, h4, h6, h8, hβ1, hβ2, hβ3, hβ4, hβ5, hβ6, hβ7, hβ8, h186, h188, h190, hel1, h335]; exact (tak_step (by omega) (by omega) (by assumption)).symm))
              refine ⟨x + 1, ⟨fun t => (([(.agg #[(Fl r1), (Fl r3), (Fl r5), (Fl r7), (Iv A_g.x), (Iv A_g.y), (Iv A_g.z), (.slice p11 A_g.vals.length q12)]), (.slice p_fr L_fr.length q_fr), (.slice p_ct L_ct.length q_ct), (Pt b15 0), Ud, Ud, (Pt b22 0), (Bo false), (Pt b195 0), (Iv (z : Int)), (Iv (y : Int)), (Iv ((x : Int) + 1)), v36, v37, v38, v39, v40, v41, v42, v43, v44, v45, v46, v47, v48, v49, v50, v51, v52, v53, v54, v55, v56, v57, v58, v59, (Bo (β3 || (!β4))), Ud, v87, v88, v89, v90, v91, v92, v93, v94, v95, v96, v97, v98, v99, v100, v101, v102, v103, v104, v105, v106, v107, v108, v109, v110, v111, v112, v113, v114, v115, v116, v117, v118, v119, v120, v121, v122, (Bo β8), Ud, v151, v152, v153, v154, v155, v156, v157, v158, v159, v160, v161, v162, v163, v164, v165, v166, v167, v168, v169, v170, v171, v172, v173, v174, v175, v176, (.agg #[(Fl r185), (Fl r187), (Fl r189), (Fl r7), (Iv (nth L_ct 0)), (Iv (nth L_ct 1)), (Iv (nth L_ct 2)), (.slice (some ⟨bo191, 0, none⟩) 0 0)]), (Iv (z : Int)), (Pt b195 6), (Iv (nth L_ct 2)), (Bo (icmp .lss (z : Int) (nth L_ct 2))), (u215 107), (u215 108), (Iv (y : Int)), (Pt b195 5), (Iv (nth L_ct 1)), (Bo (icmp .lss (y : Int) (nth L_ct 1))), (u243 113), (u243 114), (Iv (x : Int)), (Pt b195 4), (Iv (nth L_ct 0)), (Bo (icmp .lss (x : Int) (nth L_ct 0))), (Iv (x : Int)), (Iv ((x : Int) + 1)), v302, (.slice p291 ((takG A_g (fC A_g L_fr) (nth L_ct 0) (nth L_ct 1) (cnt (nth L_ct 0) (nth L_ct 1) x y z)).length) q292), v304, v305, v306, v307, v308, v309, v310, v311, v312, v313, v314, v315, v316, v317, v318, v319, v320, v321, v322, v323, (.slice (some ⟨b331, 0, none⟩) 1 1), (.slice p351 (((takG A_g (fC A_g L_fr) (nth L_ct 0) (nth L_ct 1) (cnt (nth L_ct 0) (nth L_ct 1) x y z)) ++ [(cf .f32 r334)]).length) q352), (Pt b195 7), Ud, Ud, Ud, Ud] : List Value)[t]?).getD undef, (.slice p351 (((takG A_g (fC A_g L_fr) (nth L_ct 0) (nth L_ct 1) (cnt (nth L_ct 0) (nth L_ct 1) x y z)) ++ [(cf .f32 r334)]).length) q352), ?_, (KpL.more (KpL.more (KpL.more (KpL.ext E286 E299) E326 all0) K343 (allS (hg342.imp (fun h => by simp [h]) id) all0)) (KpL.of_wr W354) (allS (.inl (by simp)) all0)), hO358, hB355, ?_⟩, ?_⟩
              · first | rfl | (simp only [Nat.cast_add, Nat.cast_one, Int.natCast_add, Int.natCast_one]; rfl)
              · (try dsimp only); (try dsimp only); omega
              · (try dsimp only); omega
            have c296' := c296
            (try simp only [hβ1, hβ2, hβ3, hβ4, hβ5, hβ6, hβ7, hβ8] at c296')
            (try simp only [icmp, Bool.and_eq_true, Bool.or_eq_true, Bool.and_eq_false_iff, Bool.or_eq_false_iff, Bool.not_eq_true', Bool.not_eq_false', decide_eq_true_eq, decide_eq_false_iff_not, beq_iff_eq, bne_iff_ne, beq_eq_false_iff_ne, bne_eq_false_iff_eq] at c296')
            refine wp_exit ?_
            refine hK269 _ _ ?_
            refine wp_region_lit ?_
            refine q_is rfl rfl (does_move (u := (Iv (y : Int))) (ev rfl)) (by dsimp only [List.set]; try rfl) ?_
            refine q_is rfl rfl (does_iarith (p := (y : Int)) (q := 1) (r := (y : Int) + 1) (ev rfl) (ev rfl) (.inl ⟨rfl, (in_i64 (by omega) (by omega)).symm⟩)) (by dsimp only [List.set]; try rfl) ?_
            refine q_is rfl rfl (does_assign (u := (Iv ((y : Int) + 1))) (ev rfl)) (by dsimp only [List.set]; try rfl) ?_
            refine wpList_nil ?_
            have hO359 := Own.cast (ys := ((fun (y : Nat) => takG A_g (fC A_g L_fr) (nth L_ct 0) (nth L_ct 1) (cnt (nth L_ct 0) (nth L_ct 1) 0 y z)) (y + 1))) (Own.back hO288 hg273 (KpL.size E258)) (by (try dsimp only); rw [cnt_row (by omega)])
            refine ⟨y + 1, ⟨fun t => (([(.agg #[(Fl r1), (Fl r3), (Fl r5), (Fl r7), (Iv A_g.x), (Iv A_g.y), (Iv A_g.z), (.slice p11 A_g.vals.length q12)]), (.slice p_fr L_fr.length q_fr), (.slice p_ct L_ct.length q_ct), (Pt b15 0), Ud, Ud, (Pt b22 0), (Bo false), (Pt b195 0), (Iv (z : Int)), (Iv ((y : Int) + 1)), (Iv (x : Int)), v36, v37, v38, v39, v40, v41, v42, v43, v44, v45, v46, v47, v48, v49, v50, v51, v52, v53, v54, v55, v56, v57, v58, v59, (Bo (β3 || (!β4))), Ud, v87, v88, v89, v90, v91, v92, v93, v94, v95, v96, v97, v98, v99, v100, v101, v102, v103, v104, v105, v106, v107, v108, v109, v110, v111, v112, v113, v114, v115, v116, v117, v118, v119, v120, v121, v122, (Bo β8), Ud, v151, v152, v153, v154, v155, v156, v157, v158, v159, v160, v161, v162, v163, v164, v165, v166, v167, v168, v169, v170, v171, v172, v173, v174, v175, v176, (.agg #[(Fl r185), (Fl r187), (Fl r189), (Fl r7), (Iv (nth L_ct 0)), (Iv (nth L_ct 1)), (Iv (nth L_ct 2)), (.slice (some ⟨bo191, 0, none⟩) 0 0)]), (Iv (z : Int)), (Pt b195 6), (Iv (nth L_ct 2)), (Bo (icmp .lss (z : Int) (nth L_ct 2))), (u215 107), (u215 108), (Iv (y : Int)), (Pt b195 5), (Iv (nth L_ct 1)), (Bo (icmp .lss (y : Int) (nth L_ct 1))), (Iv (y : Int)), (Iv ((y : Int) + 1)), (Iv (x : Int)), (Pt b195 4), (Iv (nth L_ct 0)), (Bo (icmp .lss (x : Int) (nth L_ct 0))), (u271 119), (u271 120), (u271 121), (u271 122), (u271 123), (u271 124), (u271 125), (u271 126), (u271 127), (u271 128), (u271 129), (u271 130), (u271 131), (u271 132), (u271 133), (u271 134), (u271 135), (u271 136), (u271 137), (u271 138), (u271 139), (u271 140), (u271 141), (u271 142), (u271 143), (u271 144), (u271 145), Ud, Ud, Ud, Ud] : List Value)[t]?).getD undef, (.slice p291 ((takG A_g (fC A_g L_fr) (nth L_ct 0) (nth L_ct 1) (cnt (nth L_ct 0) (nth L_ct 1) x y z)).length) q292), ?_, (KpL.more E258 E286 (allS (hg273.imp (fun h => by simp [h]) id) (allS (.inl (by simp)) all0))), hO359, hB289, ?_⟩, ?_⟩
            · first | rfl | (simp only [Nat.cast_add, Nat.cast_one, Int.natCast_add, Int.natCast_one]; rfl)
            · (try dsimp only); (try dsimp only); omega
            · (try dsimp only); omega
        have c268' := c268
        (try simp only [hβ1, hβ2, hβ3, hβ4, hβ5, hβ6, hβ7, hβ8] at c268')
        (try simp only [icmp, Bool.and_eq_true, Bool.or_eq_true, Bool.and_eq_false_iff, Bool.or_eq_false_iff, Bool.not_eq_true', Bool.not_eq_false', decide_eq_true_eq, decide_eq_false_iff_not, beq_iff_eq, bne_iff_ne, beq_eq_false_iff_ne, bne_eq_false_iff_eq] at c268')
        refine wp_exit ?_
        refine hK241 _ _ ?_
        refine wp_region_lit ?_
        refine q_is rfl rfl (does_move (u := (Iv (z : Int))) (ev rfl)) (by dsimp only [List.set]; try rfl) ?_
        refine q_is rfl rfl (does_iarith (p := (z : Int)) (q := 1) (r := (z : Int) + 1) (ev rfl) (ev rfl) (.inl ⟨rfl, (in_i64 (by omega) (by omega)).symm⟩)) (by dsimp only [List.set]; try rfl) ?_
        refine q_is rfl rfl (does_assign (u := (Iv ((z : Int) + 1))) (ev rfl)) (by dsimp only [List.set]; try rfl) ?_
        refine wpList_nil ?_
        have hO360 := Own.cast (ys := ((fun (z : Nat) => takG A_g (fC A_g L_fr) (nth L_ct 0) (nth L_ct 1) (cnt (nth L_ct 0) (nth L_ct 1) 0 0 z)) (z + 1))) (Own.back hO260 hg245 (KpL.size E230)) (by (try dsimp only); rw [cnt_plane (by omega)])
        refine ⟨z + 1, ⟨fun t => (([(.agg #[(Fl r1), (Fl r3), (Fl r5), (Fl r7), (Iv A_g.x), (Iv A_g.y), (Iv A_g.z), (.slice p11 A_g.vals.length q12)]), (.slice p_fr L_fr.length q_fr), (.slice p_ct L_ct.length q_ct), (Pt b15 0), Ud, Ud, (Pt b22 0), (Bo false), (Pt b195 0), (Iv ((z : Int) + 1)), (Iv (y : Int)), (u243 11), v36, v37, v38, v39, v40, v41, v42, v43, v44, v45, v46, v47, v48, v49, v50, v51, v52, v53, v54, v55, v56, v57, v58, v59, (Bo (β3 || (!β4))), Ud, v87, v88, v89, v90, v91, v92, v93, v94, v95, v96, v97, v98, v99, v100, v101, v102, v103, v104, v105, v106, v107, v108, v109, v110, v111, v112, v113, v114, v115, v116, v117, v118, v119, v120, v121, v122, (Bo β8), Ud, v151, v152, v153, v154, v155, v156, v157, v158, v159, v160, v161, v162, v163, v164, v165, v166, v167, v168, v169, v170, v171, v172, v173, v174, v175, v176, (.agg #[(Fl r185), (Fl r187), (Fl r189), (Fl r7), (Iv (nth L_ct 0)), (Iv (nth L_ct 1)), (Iv (nth L_ct 2)), (.slice (some ⟨bo191, 0, none⟩) 0 0)]), (Iv (z : Int)), (Pt b195 6), (Iv (nth L_ct 2)), (Bo (icmp .lss (z : Int) (nth L_ct 2))), (Iv (z : Int)), (Iv ((z : Int) + 1)), (Iv (y : Int)), (Pt b195 5), (Iv (nth L_ct 1)), (Bo (icmp .lss (y : Int) (nth L_ct 1))), (u243 113), (u243 114), (u243 115), (u243 116), (u243 117), (u243 118), (u243 119), (u243 120), (u243 121), (u243 122), (u243 123), (u243 124), (u243 125), (u243 126), (u243 127), (u243 128), (u243 129), (u243 130), (u243 131), (u243 132), (u243 133), (u243 134), (u243 135), (u243 136), (u243 137), (u243 138), (u243 139), (u243 140), (u243 141), (u243 142), (u243 143), (u243 144), (u243 145), Ud, Ud, Ud, Ud] : List Value)[t]?).getD undef, (.slice p263 ((takG A_g (fC A_g L_fr) (nth L_ct 0) (nth L_ct 1) (cnt (nth L_ct 0) (nth L_ct 1) 0 y z)).length) q264), ?_, (KpL.more E230 E258 (allS (hg245.imp (fun h => by simp [h]) id) (allS (.inl (by simp)) all0))), hO360, hB261, ?_⟩, ?_⟩
        · first | rfl | (simp only [Nat.cast_add, Nat.cast_one, Int.natCast_add, Int.natCast_one]; rfl)
        · (try dsimp only); (try dsimp only); omega
        · (try dsimp only); omega
    have c240' := c240
    (try simp only [hβ1, hβ2, hβ3, hβ4, hβ5, hβ6, hβ7, hβ8] at c240')
    (try simp only [icmp, Bool.and_eq_true, Bool.or_eq_true, Bool.and_eq_false_iff, Bool.or_eq_false_iff, Bool.not_eq_true', Bool.not_eq_false', decide_eq_true_eq, decide_eq_false_iff_not, beq_iff_eq, bne_iff_ne, beq_eq_false_iff_ne, bne_eq_false_iff_eq] at c240')
    refine wp_exit ?_
    refine hK213 _ _ ?_
    refine wp_seq_k fun K361 hK361 => ?_
    refine wp_seq_k fun K362 hK362 => ?_
    refine wp_region_lit ?_
    refine seqd rfl rfl (does_call (args := #[(Pt b195 0)]) cal24 (evs rfl) (c_spec_l06Is b195 0 [(Fl r185), (Fl r187), (Fl r189), (Fl r7), (Iv (nth L_ct 0)), (Iv (nth L_ct 1)), (Iv (nth L_ct 2)), (.slice p235 ((takG A_g (fC A_g L_fr) (nth L_ct 0) (nth L_ct 1) (cnt (nth L_ct 0) (nth L_ct 1) 0 0 z)).length) q236)] (GridT.mk (V3.mk (cf .f32 r185) (cf .f32 r187) (cf .f32 r189)) A_g.step (nth L_ct 0) (nth L_ct 1) (nth L_ct 2) (takG A_g (fC A_g L_fr) (nth L_ct 0) (nth L_ct 1) (cnt (nth L_ct 0) (nth L_ct 1) 0 0 z))) _ (Blk.cells hB233) ⟨r185, r187, r189, r7, (.slice p235 ((takG A_g (fC A_g L_fr) (nth L_ct 0) (nth L_ct 1) (cnt (nth L_ct 0) (nth L_ct 1) 0 0 z)).length) q236), rfl, rfl, rfl, rfl, h8, hH237.get⟩)) ?_; rintro _ w364 ⟨E363, rfl⟩
    have X365 := Ext.gr X234 E363
    show wpList _ _ _ _ (fr [(.agg #[(Fl r1), (Fl r3), (Fl r5), (Fl r7), (Iv A_g.x), (Iv A_g.y), (Iv A_g.z), (.slice p11 A_g.vals.length q12)]), (.slice p_fr L_fr.length q_fr), (.slice p_ct L_ct.length q_ct), (Pt b15 0), Ud, Ud, (Pt b22 0), (Bo false), (Pt b195 0), (Iv (z : Int)), (u215 10), (u215 11), v36, v37, v38, v39, v40, v41, v42, v43, v44, v45, v46, v47, v48, v49, v50, v51, v52, v53, v54, v55, v56, v57, v58, v59, (Bo (β3 || (!β4))), Ud, v87, v88, v89, v90, v91, v92, v93, v94, v95, v96, v97, v98, v99, v100, v101, v102, v103, v104, v105, v106, v107, v108, v109, v110, v111, v112, v113, v114, v115, v116, v117, v118, v119, v120, v121, v122, (Bo β8), Ud, v151, v152, v153, v154, v155, v156, v157, v158, v159, v160, v161, v162, v163, v164, v165, v166, v167, v168, v169, v170, v171, v172, v173, v174, v175, v176, (.agg #[(Fl r185), (Fl r187), (Fl r189), (Fl r7), (Iv (nth L_ct 0)), (Iv (nth L_ct 1)), (Iv (nth L_ct 2)), (.slice (some ⟨bo191, 0, none⟩) 0 0)]), (Iv (z : Int)), (Pt b195 6), (Iv (nth L_ct 2)), (Bo (icmp .lss (z : Int) (nth L_ct 2))), (u215 107), (u215 108), (u215 109), (u215 110), (u215 111), (u215 112), (u215 113), (u215 114), (u215 115), (u215 116), (u215 117), (u215 118), (u215 119), (u215 120), (u215 121), (u215 122), (u215 123), (u215 124), (u215 125), (u215 126), (u215 127), (u215 128), (u215 129), (u215 130), (u215 131), (u215 132), (u215 133), (u215 134), (u215 135), (u215 136), (u215 137), (u215 138), (u215 139), (u215 140), (u215 141), (u215 142), (u215 143), (u215 144), (u215 145), (Bo (isGrid (GridT.mk (V3.mk (cf .f32 r185) (cf .f32 r187) (cf .f32 r189)) A_g.step (nth L_ct 0) (nth L_ct 1) (nth L_ct 2) (takG A_g (fC A_g L_fr) (nth L_ct 0) (nth L_ct 1) (cnt (nth L_ct 0) (nth L_ct 1) 0 0 z))))), Ud, Ud, Ud]) _
    refine q_is rfl rfl (does_not (ev rfl)) (by dsimp only [List.set]; try rfl) ?_
    refine wpList_nil (hK362 _ _ ?_)
    refine wp_cond_split (t := !(isGrid (GridT.mk (V3.mk (cf .f32 r185) (cf .f32 r187) (cf .f32 r189)) A_g.step (nth L_ct 0) (nth L_ct 1) (nth L_ct 2) (takG A_g (fC A_g L_fr) (nth L_ct 0) (nth L_ct 1) (cnt (nth L_ct 0) (nth L_ct 1) 0 0 z))))) (ev rfl) (fun c366 => ?_) (fun c366 => ?_)
    · rw [Bool.not_eq_true'] at c366
      have c366' := c366
      (try simp only [hβ1, hβ2, hβ3, hβ4, hβ5, hβ6, hβ7, hβ8] at c366')
      (try simp only [icmp, Bool.and_eq_true, Bool.or_eq_true, Bool.and_eq_false_iff, Bool.or_eq_false_iff, Bool.not_eq_true', Bool.not_eq_false', decide_eq_true_eq, decide_eq_false_iff_not, beq_iff_eq, bne_iff_ne, beq_eq_false_iff_ne, bne_eq_false_iff_eq] at c366')
      refine wp_seq_k fun K367 hK367 => ?_
      refine wp_region_lit ?_
      refine q_is rfl rfl (does_build (parts' := []) (cells := #[(Fl 0), (Fl 0), (Fl 0), (Fl 0), (Iv 0), (Iv 0), (Iv 0), (.slice none 0 0)]) (evp rfl) (by kernel_rfl)) (by dsimp only [List.set]; try rfl) ?_
      refine seqn rfl rfl (does_store (n := 8) (cs := [(Fl 0), (Fl 0), (Fl 0), (Fl 0), (Iv 0), (Iv 0), (Iv 0), (.slice none 0 0)]) (u := (.agg #[(Fl 0), (Fl 0), (Fl 0), (Fl 0), (Iv 0), (Iv 0), (Iv 0), (.slice none 0 0)])) (ev rfl) (ev rfl) Try.sizeOf31 rfl (((((((((hB24.ext E33).ext E62).ext E84).ext E125).ext E146).ext E180).wr W209 (Nat.ne_of_lt n199)).kl E230 (ninS n226 (ninS (Nat.ne_of_lt n199) nin0))).ext E363) (Nat.le_of_ble_eq_true rfl) rfl) ?_; rintro _ w370 ⟨rfl, W368, hB369⟩
      change Blk _ _ [(Fl 0), (Fl 0), (Fl 0), (Fl 0), (Iv 0), (Iv 0), (Iv 0), (.slice none 0 0)] at hB369
      have X371 := Below.wr X365 W368 g28
      refine q_is rfl rfl (does_assign (u := (Bo false)) (ev rfl)) (by dsimp only [List.set]; try rfl) ?_
      refine wpList_nil (hK367 _ _ ?_)
      refine wp_ret ?_
      dsimp only [Exit.then, Exit.inBlock]
      refine ret_val (v := (.tuple #[(.agg #[(Fl 0), (Fl 0), (Fl 0), (Fl 0), (Iv 0), (Iv 0), (Iv 0), (.slice none 0 0)]), (Bo false)])) (res_CT rfl (slot rfl) (run_loadAgg (cs := [(Fl 0), (Fl 0), (Fl 0), (Fl 0), (Iv 0), (Iv 0), (Iv 0), (.slice none 0 0)]) Try.isAgg31 Try.sizeOf31 (Blk.cells hB369) rfl) (slot rfl)) X371 ?_
      try simp only [h2, h4, h6, h8, hβ1, hβ2, hβ3, hβ4, hβ5, hβ6, hβ7, hβ8, h186, h188, h190] at c66 c129 c240 c366
      have x372 : (crpOk A_g L_fr L_ct) = false := by first | exact crpOk_f hcf | (rw [crpR_f hcf] <;> (show _ = _; dsimp only [zG, zV])) | (rw [crpOk_t hca, crpG_end hca (by assumption) (by omega)] <;> assumption) | (rw [crpR_t hca, crpG_end hca (z := z) (by assumption) (by omega), ‹isGrid (GridT.mk _ _ _ _ _ _) = false›] <;> rfl) | (rw [crpR_t hca, crpG_end hca (z := z) (by assumption) (by omega), ‹isGrid (GridT.mk _ _ _ _ _ _) = true›, gvA_t] <;> first | rfl | assumption | (simp only [h2, h4, h6, h8, hβ1, hβ2, hβ3, hβ4, hβ5, hβ6, hβ7, hβ8, h186, h188, h190, c66, c129, c240, c366]; done)) | (rw [crpOk_t hca] <;> first | assumption | rfl) | (rw [crpR_t hca] <;> first | rfl | assumption) | (rw [crpOk_t hca]; simp only [h2, h4, h6, h8, hβ1, hβ2, hβ3, hβ4, hβ5, hβ6, hβ7, hβ8, h186, h188, h190, c66, c129, c240, c366]; rfl) | (rw [crpR_t hca]; simp only [h2, h4, h6, h8, hβ1, hβ2, hβ3, hβ4, hβ5, hβ6, hβ7, hβ8, h186, h188, h190, c66, c129, c240, c366]; rfl)
      have x373 : cf .f32 0 = (crpR A_g L_fr L_ct).low.x := by first | exact crpOk_f hcf | (rw [crpR_f hcf] <;> (show _ = _; dsimp only [zG, zV])) | (rw [crpOk_t hca, crpG_end hca (by assumption) (by omega)] <;> assumption) | (rw [crpR_t hca, crpG_end hca (z := z) (by assumption) (by omega), ‹isGrid (GridT.mk _ _ _ _ _ _) = false›] <;> rfl) | (rw [crpR_t hca, crpG_end hca (z := z) (by assumption) (by omega), ‹isGrid (GridT.mk _ _ _ _ _ _) = true›, gvA_t] <;> first | rfl | assumption | (simp only [h2, h4, h6, h8, hβ1, hβ2, hβ3, hβ4, hβ5, hβ6, hβ7, hβ8, h186, h188, h190, c66, c129, c240, c366]; done)) | (rw [crpOk_t hca] <;> first | assumption | rfl) | (rw [crpR_t hca] <;> first | rfl | assumption) | (rw [crpOk_t hca]; simp only [h2, h4, h6, h8, hβ1, hβ2, hβ3, hβ4, hβ5, hβ6, hβ7, hβ8, h186, h188, h190, c66, c129, c240, c366]; rfl) | (rw [crpR_t hca]; simp only [h2, h4, h6, h8, hβ1, hβ2, hβ3, hβ4, hβ5, hβ6, hβ7, hβ8, h186, h188, h190, c66, c129, c240, c366]; rfl)
      have x374 : cf .f32 0 = (crpR A_g L_fr L_ct).low.y := by first | exact crpOk_f hcf | (rw [crpR_f hcf] <;> (show _ = _; dsimp only [zG, zV])) | (rw [crpOk_t hca, crpG_end hca (by assumption) (by omega)] <;> assumption) | (rw [crpR_t hca, crpG_end hca (z := z) (by assumption) (by omega), ‹isGrid (GridT.mk _ _ _ _ _ _) = false›] <;> rfl) | (rw [crpR_t hca, crpG_end hca (z := z) (by assumption) (by omega), ‹isGrid (GridT.mk _ _ _ _ _ _) = true›, gvA_t] <;> first | rfl | assumption | (simp only [h2, h4, h6, h8, hβ1, hβ2, hβ3, hβ4, hβ5, hβ6, hβ7, hβ8, h186, h188, h190, c66, c129, c240, c366]; done)) | (rw [crpOk_t hca] <;> first | assumption | rfl) | (rw [crpR_t hca] <;> first | rfl | assumption) | (rw [crpOk_t hca]; simp only [h2, h4, h6, h8, hβ1, hβ2, hβ3, hβ4, hβ5, hβ6, hβ7, hβ8, h186, h188, h190, c66, c129, c240, c366]; rfl) | (rw [crpR_t hca]; simp only [h2, h4, h6, h8, hβ1, hβ2, hβ3, hβ4, hβ5, hβ6, hβ7, hβ8, h186, h188, h190, c66, c129, c240, c366]; rfl)
      have x375 : cf .f32 0 = (crpR A_g L_fr L_ct).low.z := by first | exact crpOk_f hcf | (rw [crpR_f hcf] <;> (show _ = _; dsimp only [zG, zV])) | (rw [crpOk_t hca, crpG_end hca (by assumption) (by omega)] <;> assumption) | (rw [crpR_t hca, crpG_end hca (z := z) (by assumption) (by omega), ‹isGrid (GridT.mk _ _ _ _ _ _) = false›] <;> rfl) | (rw [crpR_t hca, crpG_end hca (z := z) (by assumption) (by omega), ‹isGrid (GridT.mk _ _ _ _ _ _) = true›, gvA_t] <;> first | rfl | assumption | (simp only [h2, h4, h6, h8, hβ1, hβ2, hβ3, hβ4, hβ5, hβ6, hβ7, hβ8, h186, h188, h190, c66, c129, c240, c366]; done)) | (rw [crpOk_t hca] <;> first | assumption | rfl) | (rw [crpR_t hca] <;> first | rfl | assumption) | (rw [crpOk_t hca]; simp only [h2, h4, h6, h8, hβ1, hβ2, hβ3, hβ4, hβ5, hβ6, hβ7, hβ8, h186, h188, h190, c66, c129, c240, c366]; rfl) | (rw [crpR_t hca]; simp only [h2, h4, h6, h8, hβ1, hβ2, hβ3, hβ4, hβ5, hβ6, hβ7, hβ8, h186, h188, h190, c66, c129, c240, c366]; rfl)
      have x376 : cf .f32 0 = (crpR A_g L_fr L_ct).step := by first | exact crpOk_f hcf | (rw [crpR_f hcf] <;> (show _ = _; dsimp only [zG, zV])) | (rw [crpOk_t hca, crpG_end hca (by assumption) (by omega)] <;> assumption) | (rw [crpR_t hca, crpG_end hca (z := z) (by assumption) (by omega), ‹isGrid (GridT.mk _ _ _ _ _ _) = false›] <;> rfl) | (rw [crpR_t hca, crpG_end hca (z := z) (by assumption) (by omega), ‹isGrid (GridT.mk _ _ _ _ _ _) = true›, gvA_t] <;> first | rfl | assumption | (simp only [h2, h4, h6, h8, hβ1, hβ2, hβ3, hβ4, hβ5, hβ6, hβ7, hβ8, h186, h188, h190, c66, c129, c240, c366]; done)) | (rw [crpOk_t hca] <;> first | assumption | rfl) | (rw [crpR_t hca] <;> first | rfl | assumption) | (rw [crpOk_t hca]; simp only [h2, h4, h6, h8, hβ1, hβ2, hβ3, hβ4, hβ5, hβ6, hβ7, hβ8, h186, h188, h190, c66, c129, c240, c366]; rfl) | (rw [crpR_t hca]; simp only [h2, h4, h6, h8, hβ1, hβ2, hβ3, hβ4, hβ5, hβ6, hβ7, hβ8, h186, h188, h190, c66, c129, c240, c366]; rfl)
      have x377 : (crpR A_g L_fr L_ct).x = 0 := by first | exact crpOk_f hcf | (rw [crpR_f hcf] <;> (show _ = _; dsimp only [zG, zV])) | (rw [crpOk_t hca, crpG_end hca (by assumption) (by omega)] <;> assumption) | (rw [crpR_t hca, crpG_end hca (z := z) (by assumption) (by omega), ‹isGrid (GridT.mk _ _ _ _ _ _) = false›] <;> rfl) | (rw [crpR_t hca, crpG_end hca (z := z) (by assumption) (by omega), ‹isGrid (GridT.mk _ _ _ _ _ _) = true›, gvA_t] <;> first | rfl | assumption | (simp only [h2, h4, h6, h8, hβ1, hβ2, hβ3, hβ4, hβ5, hβ6, hβ7, hβ8, h186, h188, h190, c66, c129, c240, c366]; done)) | (rw [crpOk_t hca] <;> first | assumption | rfl) | (rw [crpR_t hca] <;> first | rfl | assumption) | (rw [crpOk_t hca]; simp only [h2, h4, h6, h8, hβ1, hβ2, hβ3, hβ4, hβ5, hβ6, hβ7, hβ8, h186, h188, h190, c66, c129, c240, c366]; rfl) | (rw [crpR_t hca]; simp only [h2, h4, h6, h8, hβ1, hβ2, hβ3, hβ4, hβ5, hβ6, hβ7, hβ8, h186, h188, h190, c66, c129, c240, c366]; rfl)
      have x378 : (crpR A_g L_fr L_ct).y = 0 := by first | exact crpOk_f hcf | (rw [crpR_f hcf] <;> (show _ = _; dsimp only [zG, zV])) | (rw [crpOk_t hca, crpG_end hca (by assumption) (by omega)] <;> assumption) | (rw [crpR_t hca, crpG_end hca (z := z) (by assumption) (by omega), ‹isGrid (GridT.mk _ _ _ _ _ _) = false›] <;> rfl) | (rw [crpR_t hca, crpG_end hca (z := z) (by assumption) (by omega), ‹isGrid (GridT.mk _ _ _ _ _ _) = true›, gvA_t] <;> first | rfl | assumption | (simp only [h2, h4, h6, h8, hβ1, hβ2, hβ3, hβ4, hβ5, hβ6, hβ7, hβ8, h186, h188, h190, c66, c129, c240, c366]; done)) | (rw [crpOk_t hca] <;> first | assumption | rfl) | (rw [crpR_t hca] <;> first | rfl | assumption) | (rw [crpOk_t hca]; simp only [h2, h4, h6, h8, hβ1, hβ2, hβ3, hβ4, hβ5, hβ6, hβ7, hβ8, h186, h188, h190, c66, c129, c240, c366]; rfl) | (rw [crpR_t hca]; simp only [h2, h4, h6, h8, hβ1, hβ2, hβ3, hβ4, hβ5, hβ6, hβ7, hβ8, h186, h188, h190, c66, c129, c240, c366]; rfl)
      have x379 : (crpR A_g L_fr L_ct).z = 0 := by first | exact crpOk_f hcf | (rw [crpR_f hcf] <;> (show _ = _; dsimp only [zG, zV])) | (rw [crpOk_t hca, crpG_end hca (by assumption) (by omega)] <;> assumption) | (rw [crpR_t hca, crpG_end hca (z := z) (by assumption) (by omega), ‹isGrid (GridT.mk _ _ _ _ _ _) = false›] <;> rfl) | (rw [crpR_t hca, crpG_end hca (z := z) (by assumption) (by omega), ‹isGrid (GridT.mk _ _ _ _ _ _) = true›, gvA_t] <;> first | rfl | assumption | (simp only [h2, h4, h6, h8, hβ1, hβ2, hβ3, hβ4, hβ5, hβ6, hβ7, hβ8, h186, h188, h190, c66, c129, c240, c366]; done)) | (rw [crpOk_t hca] <;> first | assumption | rfl) | (rw [crpR_t hca] <;> first | rfl | assumption) | (rw [crpOk_t hca]; simp only [h2, h4, h6, h8, hβ1, hβ2, hβ3, hβ4, hβ5, hβ6, hβ7, hβ8, h186, h188, h190, c66, c129, c240, c366]; rfl) | (rw [crpR_t hca]; simp only [h2, h4, h6, h8, hβ1, hβ2, hβ3, hβ4, hβ5, hβ6, hβ7, hβ8, h186, h188, h190, c66, c129, c240, c366]; rfl)
      have x380 : ([]) = ((crpR A_g L_fr L_ct).vals) := by first | exact crpOk_f hcf | (rw [crpR_f hcf] <;> (show _ = _; dsimp only [zG, zV])) | (rw [crpOk_t hca, crpG_end hca (by assumption) (by omega)] <;> assumption) | (rw [crpR_t hca, crpG_end hca (z := z) (by assumption) (by omega), ‹isGrid (GridT.mk _ _ _ _ _ _) = false›] <;> rfl) | (rw [crpR_t hca, crpG_end hca (z := z) (by assumption) (by omega), ‹isGrid (GridT.mk _ _ _ _ _ _) = true›, gvA_t] <;> first | rfl | assumption | (simp only [h2, h4, h6, h8, hβ1, hβ2, hβ3, hβ4, hβ5, hβ6, hβ7, hβ8, h186, h188, h190, c66, c129, c240, c366]; done)) | (rw [crpOk_t hca] <;> first | assumption | rfl) | (rw [crpR_t hca] <;> first | rfl | assumption) | (rw [crpOk_t hca]; simp only [h2, h4, h6, h8, hβ1, hβ2, hβ3, hβ4, hβ5, hβ6, hβ7, hβ8, h186, h188, h190, c66, c129, c240, c366]; rfl) | (rw [crpR_t hca]; simp only [h2, h4, h6, h8, hβ1, hβ2, hβ3, hβ4, hβ5, hβ6, hβ7, hβ8, h186, h188, h190, c66, c129, c240, c366]; rfl)
      exact ⟨[(Fl 0), (Fl 0), (Fl 0), (Fl 0), (Iv 0), (Iv 0), (Iv 0), (.slice none 0 0)], (by first | rfl | rw [x372]), fun u hu => ⟨0, 0, 0, 0, (.slice none 0 0), (by first | with_reducible rfl | (show _ = _; simp only [x377, x378, x379]) | rfl), x373, x374, x375, x376, (Hang.castL (Sl.hang_nil _ _ _ _) x380) u hu⟩⟩
    rw [Bool.not_eq_false'] at c366
    have c366' := c366
    (try simp only [hβ1, hβ2, hβ3, hβ4, hβ5, hβ6, hβ7, hβ8] at c366')
    (try simp only [icmp, Bool.and_eq_true, Bool.or_eq_true, Bool.and_eq_false_iff, Bool.or_eq_false_iff, Bool.not_eq_true', Bool.not_eq_false', decide_eq_true_eq, decide_eq_false_iff_not, beq_iff_eq, bne_iff_ne, beq_eq_false_iff_ne, bne_eq_false_iff_eq] at c366')
    refine wp_skip (hK361 _ _ ?_)
    refine wp_seq_k fun K381 hK381 => ?_
    refine wp_region_lit ?_
    refine q_is rfl rfl (does_loadAgg (cs := [(Fl r185), (Fl r187), (Fl r189), (Fl r7), (Iv (nth L_ct 0)), (Iv (nth L_ct 1)), (Iv (nth L_ct 2)), (.slice p235 ((takG A_g (fC A_g L_fr) (nth L_ct 0) (nth L_ct 1) (cnt (nth L_ct 0) (nth L_ct 1) 0 0 z)).length) q236)]) (ev rfl) Try.isAgg31 Try.sizeOf31 (Blk.cells (hB233.ext E363)) rfl) (by dsimp only [List.set]; try rfl) ?_
    refine seqn rfl rfl (does_store (n := 8) (cs := [(Fl 0), (Fl 0), (Fl 0), (Fl 0), (Iv 0), (Iv 0), (Iv 0), (.slice none 0 0)]) (u := (.agg #[(Fl r185), (Fl r187), (Fl r189), (Fl r7), (Iv (nth L_ct 0)), (Iv (nth L_ct 1)), (Iv (nth L_ct 2)), (.slice p235 ((takG A_g (fC A_g L_fr) (nth L_ct 0) (nth L_ct 1) (cnt (nth L_ct 0) (nth L_ct 1) 0 0 z)).length) q236)])) (ev rfl) (ev rfl) Try.sizeOf31 rfl (((((((((hB24.ext E33).ext E62).ext E84).ext E125).ext E146).ext E180).wr W209 (Nat.ne_of_lt n199)).kl E230 (ninS n226 (ninS (Nat.ne_of_lt n199) nin0))).ext E363) (Nat.le_of_ble_eq_true rfl) rfl) ?_; rintro _ w384 ⟨rfl, W382, hB383⟩
    change Blk _ _ [(Fl r185), (Fl r187), (Fl r189), (Fl r7), (Iv (nth L_ct 0)), (Iv (nth L_ct 1)), (Iv (nth L_ct 2)), (.slice p235 ((takG A_g (fC A_g L_fr) (nth L_ct 0) (nth L_ct 1) (cnt (nth L_ct 0) (nth L_ct 1) 0 0 z)).length) q236)] at hB383
    have X385 := Below.wr X365 W382 g28
    refine q_is rfl rfl (does_assign (u := (Bo true)) (ev rfl)) (by dsimp only [List.set]; try rfl) ?_
    refine wpList_nil (hK381 _ _ ?_)
    refine wp_ret ?_
    refine ret_val (v := (.tuple #[(.agg #[(Fl r185), (Fl r187), (Fl r189), (Fl r7), (Iv (nth L_ct 0)), (Iv (nth L_ct 1)), (Iv (nth L_ct 2)), (.slice p235 ((takG A_g (fC A_g L_fr) (nth L_ct 0) (nth L_ct 1) (cnt (nth L_ct 0) (nth L_ct 1) 0 0 z)).length) q236)]), (Bo true)])) (res_CT rfl (slot rfl) (run_loadAgg (cs := [(Fl r185), (Fl r187), (Fl r189), (Fl r7), (Iv (nth L_ct 0)), (Iv (nth L_ct 1)), (Iv (nth L_ct 2)), (.slice p235 ((takG A_g (fC A_g L_fr) (nth L_ct 0) (nth L_ct 1) (cnt (nth L_ct 0) (nth L_ct 1) 0 0 z)).length) q236)]) Try.isAgg31 Try.sizeOf31 (Blk.cells hB383) rfl) (slot rfl)) X385 ?_
    try simp only [h2, h4, h6, h8, hβ1, hβ2, hβ3, hβ4, hβ5, hβ6, hβ7, hβ8, h186, h188, h190] at c66 c129 c240 c366
    have x386 : (crpOk A_g L_fr L_ct) = true := by first | exact crpOk_f hcf | (rw [crpR_f hcf] <;> (show _ = _; dsimp only [zG, zV])) | (rw [crpOk_t hca, crpG_end hca (by assumption) (by omega)] <;> assumption) | (rw [crpR_t hca, crpG_end hca (z := z) (by assumption) (by omega), ‹isGrid (GridT.mk _ _ _ _ _ _) = false›] <;> rfl) | (rw [crpR_t hca, crpG_end hca (z := z) (by assumption) (by omega), ‹isGrid (GridT.mk _ _ _ _ _ _) = true›, gvA_t] <;> first | rfl | assumption | (simp only [h2, h4, h6, h8, hβ1, hβ2, hβ3, hβ4, hβ5, hβ6, hβ7, hβ8, h186, h188, h190, c66, c129, c240, c366]; done)) | (rw [crpOk_t hca] <;> first | assumption | rfl) | (rw [crpR_t hca] <;> first | rfl | assumption) | (rw [crpOk_t hca]; simp only [h2, h4, h6, h8, hβ1, hβ2, hβ3, hβ4, hβ5, hβ6, hβ7, hβ8, h186, h188, h190, c66, c129, c240, c366]; rfl) | (rw [crpR_t hca]; simp only [h2, h4, h6, h8, hβ1, hβ2, hβ3, hβ4, hβ5, hβ6, hβ7, hβ8, h186, h188, h190, c66, c129, c240, c366]; rfl)
    have x387 : cf .f32 r185 = (crpR A_g L_fr L_ct).low.x := by first | exact crpOk_f hcf | (rw [crpR_f hcf] <;> (show _ = _; dsimp only [zG, zV])) | (rw [crpOk_t hca, crpG_end hca (by assumption) (by omega)] <;> assumption) | (rw [crpR_t hca, crpG_end hca (z := z) (by assumption) (by omega), ‹isGrid (GridT.mk _ _ _ _ _ _) = false›] <;> rfl) | (rw [crpR_t hca, crpG_end hca (z := z) (by assumption) (by omega), ‹isGrid (GridT.mk _ _ _ _ _ _) = true›, gvA_t] <;> first | rfl | assumption | (simp only [h2, h4, h6, h8, hβ1, hβ2, hβ3, hβ4, hβ5, hβ6, hβ7, hβ8, h186, h188, h190, c66, c129, c240, c366]; done)) | (rw [crpOk_t hca] <;> first | assumption | rfl) | (rw [crpR_t hca] <;> first | rfl | assumption) | (rw [crpOk_t hca]; simp only [h2, h4, h6, h8, hβ1, hβ2, hβ3, hβ4, hβ5, hβ6, hβ7, hβ8, h186, h188, h190, c66, c129, c240, c366]; rfl) | (rw [crpR_t hca]; simp only [h2, h4, h6, h8, hβ1, hβ2, hβ3, hβ4, hβ5, hβ6, hβ7, hβ8, h186, h188, h190, c66, c129, c240, c366]; rfl)
    have x388 : cf .f32 r187 = (crpR A_g L_fr L_ct).low.y := by first | exact crpOk_f hcf | (rw [crpR_f hcf] <;> (show _ = _; dsimp only [zG, zV])) | (rw [crpOk_t hca, crpG_end hca (by assumption) (by omega)] <;> assumption) | (rw [crpR_t hca, crpG_end hca (z := z) (by assumption) (by omega), ‹isGrid (GridT.mk _ _ _ _ _ _) = false›] <;> rfl) | (rw [crpR_t hca, crpG_end hca (z := z) (by assumption) (by omega), ‹isGrid (GridT.mk _ _ _ _ _ _) = true›, gvA_t] <;> first | rfl | assumption | (simp only [h2, h4, h6, h8, hβ1, hβ2, hβ3, hβ4, hβ5, hβ6, hβ7, hβ8, h186, h188, h190, c66, c129, c240, c366]; done)) | (rw [crpOk_t hca] <;> first | assumption | rfl) | (rw [crpR_t hca] <;> first | rfl | assumption) | (rw [crpOk_t hca]; simp only [h2, h4, h6, h8, hβ1, hβ2, hβ3, hβ4, hβ5, hβ6, hβ7, hβ8, h186, h188, h190, c66, c129, c240, c366]; rfl) | (rw [crpR_t hca]; simp only [h2, h4, h6, h8, hβ1, hβ2, hβ3, hβ4, hβ5, hβ6, hβ7, hβ8, h186, h188, h190, c66, c129, c240, c366]; rfl)
    have x389 : cf .f32 r189 = (crpR A_g L_fr L_ct).low.z := by first | exact crpOk_f hcf | (rw [crpR_f hcf] <;> (show _ = _; dsimp only [zG, zV])) | (rw [crpOk_t hca, crpG_end hca (by assumption) (by omega)] <;> assumption) | (rw [crpR_t hca, crpG_end hca (z := z) (by assumption) (by omega), ‹isGrid (GridT.mk _ _ _ _ _ _) = false›] <;> rfl) | (rw [crpR_t hca, crpG_end hca (z := z) (by assumption) (by omega), ‹isGrid (GridT.mk _ _ _ _ _ _) = true›, gvA_t] <;> first | rfl | assumption | (simp only [h2, h4, h6, h8, hβ1, hβ2, hβ3, hβ4, hβ5, hβ6, hβ7, hβ8, h186, h188, h190, c66, c129, c240, c366]; done)) | (rw [crpOk_t hca] <;> first | assumption | rfl) | (rw [crpR_t hca] <;> first | rfl | assumption) | (rw [crpOk_t hca]; simp only [h2, h4, h6, h8, hβ1, hβ2, hβ3, hβ4, hβ5, hβ6, hβ7, hβ8, h186, h188, h190, c66, c129, c240, c366]; rfl) | (rw [crpR_t hca]; simp only [h2, h4, h6, h8, hβ1, hβ2, hβ3, hβ4, hβ5, hβ6, hβ7, hβ8, h186, h188, h190, c66, c129, c240, c366]; rfl)
    have x390 : cf .f32 r7 = (crpR A_g L_fr L_ct).step := by first | exact crpOk_f hcf | (rw [crpR_f hcf] <;> (show _ = _; dsimp only [zG, zV])) | (rw [crpOk_t hca, crpG_end hca (by assumption) (by omega)] <;> assumption) | (rw [crpR_t hca, crpG_end hca (z := z) (by assumption) (by omega), ‹isGrid (GridT.mk _ _ _ _ _ _) = false›] <;> rfl) | (rw [crpR_t hca, crpG_end hca (z := z) (by assumption) (by omega), ‹isGrid (GridT.mk _ _ _ _ _ _) = true›, gvA_t] <;> first | rfl | assumption | (simp only [h2, h4, h6, h8, hβ1, hβ2, hβ3, hβ4, hβ5, hβ6, hβ7, hβ8, h186, h188, h190, c66, c129, c240, c366]; done)) | (rw [crpOk_t hca] <;> first | assumption | rfl) | (rw [crpR_t hca] <;> first | rfl | assumption) | (rw [crpOk_t hca]; simp only [h2, h4, h6, h8, hβ1, hβ2, hβ3, hβ4, hβ5, hβ6, hβ7, hβ8, h186, h188, h190, c66, c129, c240, c366]; rfl) | (rw [crpR_t hca]; simp only [h2, h4, h6, h8, hβ1, hβ2, hβ3, hβ4, hβ5, hβ6, hβ7, hβ8, h186, h188, h190, c66, c129, c240, c366]; rfl)
    have x391 : (crpR A_g L_fr L_ct).x = (nth L_ct 0) := by first | exact crpOk_f hcf | (rw [crpR_f hcf] <;> (show _ = _; dsimp only [zG, zV])) | (rw [crpOk_t hca, crpG_end hca (by assumption) (by omega)] <;> assumption) | (rw [crpR_t hca, crpG_end hca (z := z) (by assumption) (by omega), ‹isGrid (GridT.mk _ _ _ _ _ _) = false›] <;> rfl) | (rw [crpR_t hca, crpG_end hca (z := z) (by assumption) (by omega), ‹isGrid (GridT.mk _ _ _ _ _ _) = true›, gvA_t] <;> first | rfl | assumption | (simp only [h2, h4, h6, h8, hβ1, hβ2, hβ3, hβ4, hβ5, hβ6, hβ7, hβ8, h186, h188, h190, c66, c129, c240, c366]; done)) | (rw [crpOk_t hca] <;> first | assumption | rfl) | (rw [crpR_t hca] <;> first | rfl | assumption) | (rw [crpOk_t hca]; simp only [h2, h4, h6, h8, hβ1, hβ2, hβ3, hβ4, hβ5, hβ6, hβ7, hβ8, h186, h188, h190, c66, c129, c240, c366]; rfl) | (rw [crpR_t hca]; simp only [h2, h4, h6, h8, hβ1, hβ2, hβ3, hβ4, hβ5, hβ6, hβ7, hβ8, h186, h188, h190, c66, c129, c240, c366]; rfl)
    have x392 : (crpR A_g L_fr L_ct).y = (nth L_ct 1) := by first | exact crpOk_f hcf | (rw [crpR_f hcf] <;> (show _ = _; dsimp only [zG, zV])) | (rw [crpOk_t hca, crpG_end hca (by assumption) (by omega)] <;> assumption) | (rw [crpR_t hca, crpG_end hca (z := z) (by assumption) (by omega), ‹isGrid (GridT.mk _ _ _ _ _ _) = false›] <;> rfl) | (rw [crpR_t hca, crpG_end hca (z := z) (by assumption) (by omega), ‹isGrid (GridT.mk _ _ _ _ _ _) = true›, gvA_t] <;> first | rfl | assumption | (simp only [h2, h4, h6, h8, hβ1, hβ2, hβ3, hβ4, hβ5, hβ6, hβ7, hβ8, h186, h188, h190, c66, c129, c240, c366]; done)) | (rw [crpOk_t hca] <;> first | assumption | rfl) | (rw [crpR_t hca] <;> first | rfl | assumption) | (rw [crpOk_t hca]; simp only [h2, h4, h6, h8, hβ1, hβ2, hβ3, hβ4, hβ5, hβ6, hβ7, hβ8, h186, h188, h190, c66, c129, c240, c366]; rfl) | (rw [crpR_t hca]; simp only [h2, h4, h6, h8, hβ1, hβ2, hβ3, hβ4, hβ5, hβ6, hβ7, hβ8, h186, h188, h190, c66, c129, c240, c366]; rfl)
    have x393 : (crpR A_g L_fr L_ct).z = (nth L_ct 2) := by first | exact crpOk_f hcf | (rw [crpR_f hcf] <;> (show _ = _; dsimp only [zG, zV])) | (rw [crpOk_t hca, crpG_end hca (by assumption) (by omega)] <;> assumption) | (rw [crpR_t hca, crpG_end hca (z := z) (by assumption) (by omega), ‹isGrid (GridT.mk _ _ _ _ _ _) = false›] <;> rfl) | (rw [crpR_t hca, crpG_end hca (z := z) (by assumption) (by omega), ‹isGrid (GridT.mk _ _ _ _ _ _) = true›, gvA_t] <;> first | rfl | assumption | (simp only [h2, h4, h6, h8, hβ1, hβ2, hβ3, hβ4, hβ5, hβ6, hβ7, hβ8, h186, h188, h190, c66, c129, c240, c366]; done)) | (rw [crpOk_t hca] <;> first | assumption | rfl) | (rw [crpR_t hca] <;> first | rfl | assumption) | (rw [crpOk_t hca]; simp only [h2, h4, h6, h8, hβ1, hβ2, hβ3, hβ4, hβ5, hβ6, hβ7, hβ8, h186, h188, h190, c66, c129, c240, c366]; rfl) | (rw [crpR_t hca]; simp only [h2, h4, h6, h8, hβ1, hβ2, hβ3, hβ4, hβ5, hβ6, hβ7, hβ8, h186, h188, h190, c66, c129, c240, c366]; rfl)
    have x394 : (takG A_g (fC A_g L_fr) (nth L_ct 0) (nth L_ct 1) (cnt (nth L_ct 0) (nth L_ct 1) 0 0 z)) = ((crpR A_g L_fr L_ct).vals) := by first | exact crpOk_f hcf | (rw [crpR_f hcf] <;> (show _ = _; dsimp only [zG, zV])) | (rw [crpOk_t hca, crpG_end hca (by assumption) (by omega)] <;> assumption) | (rw [crpR_t hca, crpG_end hca (z := z) (by assumption) (by omega), ‹isGrid (GridT.mk _ _ _ _ _ _) = false›] <;> rfl) | (rw [crpR_t hca, crpG_end hca (z := z) (by assumption) (by omega), ‹isGrid (GridT.mk _ _ _ _ _ _) = true›, gvA_t] <;> first | rfl | assumption | (simp only [h2, h4, h6, h8, hβ1, hβ2, hβ3, hβ4, hβ5, hβ6, hβ7, hβ8, h186, h188, h190, c66, c129, c240, c366]; done)) | (rw [crpOk_t hca] <;> first | assumption | rfl) | (rw [crpR_t hca] <;> first | rfl | assumption) | (rw [crpOk_t hca]; simp only [h2, h4, h6, h8, hβ1, hβ2, hβ3, hβ4, hβ5, hβ6, hβ7, hβ8, h186, h188, h190, c66, c129, c240, c366]; rfl) | (rw [crpR_t hca]; simp only [h2, h4, h6, h8, hβ1, hβ2, hβ3, hβ4, hβ5, hβ6, hβ7, hβ8, h186, h188, h190, c66, c129, c240, c366]; rfl)
    exact ⟨[(Fl r185), (Fl r187), (Fl r189), (Fl r7), (Iv (nth L_ct 0)), (Iv (nth L_ct 1)), (Iv (nth L_ct 2)), (.slice p235 ((takG A_g (fC A_g L_fr) (nth L_ct 0) (nth L_ct 1) (cnt (nth L_ct 0) (nth L_ct 1) 0 0 z)).length) q236)], (by first | rfl | rw [x386]), fun u hu => ⟨r185, r187, r189, r7, (.slice p235 ((takG A_g (fC A_g L_fr) (nth L_ct 0) (nth L_ct 1) (cnt (nth L_ct 0) (nth L_ct 1) 0 0 z)).length) q236), (by first | with_reducible rfl | (show _ = _; simp only [x391, x392, x393]) | rfl), x387, x388, x389, x390, (Hang.castL (Own.hang (Own.same hO232 RF.flat (((Same.refl _ _).ext E363).wr W382 (.inl n149)) hN223 (Nat.le_trans (Nat.le_trans (Below.size E146) (Below.size E180)) (Nat.le_of_eq (Eq.symm (Wr.size W209))))) RF.flat (by decide) (Nat.le_trans (Nat.le_trans (Nat.le_trans (Nat.le_trans (Nat.le_trans (Nat.le_trans (Below.size E18) (Below.size E25)) (Below.size E33)) (Below.size E62)) (Below.size E84)) (Below.size E125)) hN223) (Nat.le_trans (Nat.le_trans (Nat.le_trans (Nat.le_trans (Nat.le_trans (Nat.le_trans (Below.size E18) (Below.size E25)) (Below.size E33)) (Below.size E62)) (Below.size E84)) (Below.size E125)) (Nat.le_trans (Nat.le_trans (Below.size E146) (Below.size E180)) (Nat.le_of_eq (Eq.symm (Wr.size W209)))))) x394) u hu⟩⟩

/- laws.toInt64S -/
theorem c_laws_toInt64S (a : Value) (L_a : List Int) (w : World) (hv_a : Sl RI 1 w a L_a) (hsz : L_a.length ≤ 1048576) : Gives Try.prog 15 #[a] w (fun v w' => ∃ y_1 : Value, ∃ Lw_2 : List Nat, v = y_1 ∧ Hang w.heap.size w' (fun u => Sl RI 1 u y_1 L_a) ∧ WL 1 w.heap.size w' Lw_2 y_1 L_a.length) := by
  have hlen_a := Sl.len hv_a; obtain ⟨p_a, q_a, rfl⟩ := Sl.shape hv_a
  refine enter [(.slice p_a L_a.length q_a), Ud, Ud, Ud, Ud, Ud, Ud, Ud, Ud, Ud, Ud, Ud, Ud, Ud, Ud, Ud, Ud, Ud, Ud, Ud, Ud, Ud] Try.func15 rfl Try.ntmps15 rfl ?_
  refine wp_seq_k fun K1 hK1 => ?_
  refine wp_region_lit ?_
  refine q_is (l' := [(.slice p_a L_a.length q_a), Ud, (.slice none 0 0), Ud, Ud, Ud, Ud, Ud, Ud, Ud, Ud, Ud, Ud, Ud, Ud, Ud, Ud, Ud, Ud, Ud, Ud, Ud]) rfl rfl (does_assign (u := (.slice none 0 0)) (ev rfl)) rfl ?_
  refine wpList_nil (hK1 _ _ ?_)
  refine wp_seq_k fun K2 hK2 => ?_
  refine wp_region_lit ?_
  refine q_is (l' := [(.slice p_a L_a.length q_a), Ud, (.slice none 0 0), Ud, Ud, (.slice p_a L_a.length q_a), Ud, Ud, Ud, Ud, Ud, Ud, Ud, Ud, Ud, Ud, Ud, Ud, Ud, Ud, Ud, Ud]) rfl rfl (does_move (u := (.slice p_a L_a.length q_a)) (ev rfl)) rfl ?_
  refine q_is (l' := [(.slice p_a L_a.length q_a), Ud, (.slice none 0 0), Ud, Ud, (.slice p_a L_a.length q_a), (Iv (L_a.length : Int)), Ud, Ud, Ud, Ud, Ud, Ud, Ud, Ud, Ud, Ud, Ud, Ud, Ud, Ud, Ud]) rfl rfl (does_len_slice Try.underlying38 (ev rfl)) rfl ?_
  refine seqd rfl rfl (does_makeSlice (n := L_a.length) Try.underlying38 inf2 (ev rfl) (ev rfl) (by omega)) ?_; rintro _ w7 ⟨b3, rfl, hb4, ⟨cs8, hB5, hl9, hz10⟩, E6⟩
  have g11 : w.heap.size ≤ b3 := Nat.le_trans (Below.size (Ext.refl w)) hb4
  have X12 := Ext.gr (Ext.refl w) E6
  show wpList _ _ _ _ (fr [(.slice p_a L_a.length q_a), Ud, (.slice none 0 0), Ud, Ud, (.slice p_a L_a.length q_a), (Iv (L_a.length : Int)), (.slice (some ⟨b3, 0, none⟩) L_a.length L_a.length), Ud, Ud, Ud, Ud, Ud, Ud, Ud, Ud, Ud, Ud, Ud, Ud, Ud, Ud]) _
  refine q_is (l' := [(.slice p_a L_a.length q_a), Ud, (.slice none 0 0), (.slice (some ⟨b3, 0, none⟩) L_a.length L_a.length), Ud, (.slice p_a L_a.length q_a), (Iv (L_a.length : Int)), (.slice (some ⟨b3, 0, none⟩) L_a.length L_a.length), Ud, Ud, Ud, Ud, Ud, Ud, Ud, Ud, Ud, Ud, Ud, Ud, Ud, Ud]) rfl rfl (does_assign (u := (.slice (some ⟨b3, 0, none⟩) L_a.length L_a.length)) (ev rfl)) rfl ?_
  refine wpList_nil (hK2 _ _ ?_)
  refine wp_seq_k fun K13 hK13 => ?_
  refine wp_seq_k fun K14 hK14 => ?_
  refine wp_region_lit ?_
  refine q_is (l' := [(.slice p_a L_a.length q_a), Ud, (.slice none 0 0), (.slice (some ⟨b3, 0, none⟩) L_a.length L_a.length), (Iv 0), (.slice p_a L_a.length q_a), (Iv (L_a.length : Int)), (.slice (some ⟨b3, 0, none⟩) L_a.length L_a.length), Ud, Ud, Ud, Ud, Ud, Ud, Ud, Ud, Ud, Ud, Ud, Ud, Ud, Ud]) rfl rfl (does_assign (u := (Iv 0)) (ev rfl)) rfl ?_
  refine wpList_nil (hK14 _ _ ?_)
  refine wp_block ?_
  have hF0 : Fill RI 1 w7 b3 L_a.length L_a 0 := Fill.zero hB5 hl9
  refine loop_ghost (σ := Nat) (fun k a w' => ∃ u15 : Nat → Value, a = fr [(.slice p_a L_a.length q_a), Ud, (.slice none 0 0), (.slice (some ⟨b3, 0, none⟩) L_a.length L_a.length), (Iv (k : Int)), (.slice p_a L_a.length q_a), (Iv (L_a.length : Int)), (.slice (some ⟨b3, 0, none⟩) L_a.length L_a.length), (u15 8), (u15 9), (u15 10), (u15 11), (u15 12), (u15 13), (u15 14), (u15 15), (u15 16), (u15 17), (u15 18), (u15 19), (u15 20), Ud] ∧ KpL [b3] w7 w' ∧ Fill RI 1 w' b3 L_a.length L_a k ∧ (k ≤ L_a.length)) (fun k => L_a.length - k) 0 ?_ ?_
  · refine ⟨fun t => (([(.slice p_a L_a.length q_a), Ud, (.slice none 0 0), (.slice (some ⟨b3, 0, none⟩) L_a.length L_a.length), (Iv 0), (.slice p_a L_a.length q_a), (Iv (L_a.length : Int)), (.slice (some ⟨b3, 0, none⟩) L_a.length L_a.length), Ud, Ud, Ud, Ud, Ud, Ud, Ud, Ud, Ud, Ud, Ud, Ud, Ud, Ud] : List Value)[t]?).getD undef, rfl, KpL.refl _ _, hF0, ?_⟩
    exact Nat.zero_le _
  · rintro k a w16 ⟨u15, rfl, E17, hF18, hk⟩
    have X19 := Below.kl X12 E17 (allS g11 all0) (Nat.le_refl _)
    refine wp_seq_k fun K20 hK20 => ?_
    refine wp_seq_k fun K21 hK21 => ?_
    refine wp_region_lit ?_
    refine q_is (l' := [(.slice p_a L_a.length q_a), Ud, (.slice none 0 0), (.slice (some ⟨b3, 0, none⟩) L_a.length L_a.length), (Iv (k : Int)), (.slice p_a L_a.length q_a), (Iv (L_a.length : Int)), (.slice (some ⟨b3, 0, none⟩) L_a.length L_a.length), (Iv (k : Int)), (u15 9), (u15 10), (u15 11), (u15 12), (u15 13), (u15 14), (u15 15), (u15 16), (u15 17), (u15 18), (u15 19), (u15 20), Ud]) rfl rfl (does_move (u := (Iv (k : Int))) (ev rfl)) rfl ?_
    refine q_is (l' := [(.slice p_a L_a.length q_a), Ud, (.slice none 0 0), (.slice (some ⟨b3, 0, none⟩) L_a.length L_a.length), (Iv (k : Int)), (.slice p_a L_a.length q_a), (Iv (L_a.length : Int)), (.slice (some ⟨b3, 0, none⟩) L_a.length L_a.length), (Iv (k : Int)), (.slice p_a L_a.length q_a), (u15 10), (u15 11), (u15 12), (u15 13), (u15 14), (u15 15), (u15 16), (u15 17), (u15 18), (u15 19), (u15 20), Ud]) rfl rfl (does_move (u := (.slice p_a L_a.length q_a)) (ev rfl)) rfl ?_
    refine q_is (l' := [(.slice p_a L_a.length q_a), Ud, (.slice none 0 0), (.slice (some ⟨b3, 0, none⟩) L_a.length L_a.length), (Iv (k : Int)), (.slice p_a L_a.length q_a), (Iv (L_a.length : Int)), (.slice (some ⟨b3, 0, none⟩) L_a.length L_a.length), (Iv (k : Int)), (.slice p_a L_a.length q_a), (Iv (L_a.length : Int)), (u15 11), (u15 12), (u15 13), (u15 14), (u15 15), (u15 16), (u15 17), (u15 18), (u15 19), (u15 20), Ud]) rfl rfl (does_len_slice Try.underlying38 (ev rfl)) rfl ?_
    refine q_is (l' := [(.slice p_a L_a.length q_a), Ud, (.slice none 0 0), (.slice (some ⟨b3, 0, none⟩) L_a.length L_a.length), (Iv (k : Int)), (.slice p_a L_a.length q_a), (Iv (L_a.length : Int)), (.slice (some ⟨b3, 0, none⟩) L_a.length L_a.length), (Iv (k : Int)), (.slice p_a L_a.length q_a), (Iv (L_a.length : Int)), (Bo (icmp .lss (k : Int) (L_a.length : Int))), (u15 12), (u15 13), (u15 14), (u15 15), (u15 16), (u15 17), (u15 18), (u15 19), (u15 20), Ud]) rfl rfl (does_icmp (p := (k : Int)) (q := (L_a.length : Int)) (.inr (.inr (.inl rfl))) (ev rfl) (ev rfl)) rfl ?_
    refine wpList_nil (hK21 _ _ ?_)
    refine wp_cond_split (t := icmp .lss (k : Int) (L_a.length : Int)) (ev rfl) (fun c22 => ?_) (fun c22 => ?_)
    · have c22' := c22
      (try simp only [icmp, Bool.and_eq_true, Bool.or_eq_true, Bool.and_eq_false_iff, Bool.or_eq_false_iff, Bool.not_eq_true', Bool.not_eq_false', decide_eq_true_eq, decide_eq_false_iff_not, beq_iff_eq, bne_iff_ne, beq_eq_false_iff_ne, bne_eq_false_iff_eq] at c22')
      refine wp_skip (hK20 _ _ ?_)
      refine wp_seq_k fun K23 hK23 => ?_
      refine wp_block ?_
      refine wp_region_lit ?_
      refine q_is (l' := [(.slice p_a L_a.length q_a), Ud, (.slice none 0 0), (.slice (some ⟨b3, 0, none⟩) L_a.length L_a.length), (Iv (k : Int)), (.slice p_a L_a.length q_a), (Iv (L_a.length : Int)), (.slice (some ⟨b3, 0, none⟩) L_a.length L_a.length), (Iv (k : Int)), (.slice p_a L_a.length q_a), (Iv (L_a.length : Int)), (Bo (icmp .lss (k : Int) (L_a.length : Int))), (u15 12), (u15 13), (.slice (some ⟨b3, 0, none⟩) L_a.length L_a.length), (u15 15), (u15 16), (u15 17), (u15 18), (u15 19), (u15 20), Ud]) rfl rfl (does_move (u := (.slice (some ⟨b3, 0, none⟩) L_a.length L_a.length)) (ev rfl)) rfl ?_
      refine q_is (l' := [(.slice p_a L_a.length q_a), Ud, (.slice none 0 0), (.slice (some ⟨b3, 0, none⟩) L_a.length L_a.length), (Iv (k : Int)), (.slice p_a L_a.length q_a), (Iv (L_a.length : Int)), (.slice (some ⟨b3, 0, none⟩) L_a.length L_a.length), (Iv (k : Int)), (.slice p_a L_a.length q_a), (Iv (L_a.length : Int)), (Bo (icmp .lss (k : Int) (L_a.length : Int))), (u15 12), (u15 13), (.slice (some ⟨b3, 0, none⟩) L_a.length L_a.length), (Iv (k : Int)), (u15 16), (u15 17), (u15 18), (u15 19), (u15 20), Ud]) rfl rfl (does_move (u := (Iv (k : Int))) (ev rfl)) rfl ?_
      refine q_is (l' := [(.slice p_a L_a.length q_a), Ud, (.slice none 0 0), (.slice (some ⟨b3, 0, none⟩) L_a.length L_a.length), (Iv (k : Int)), (.slice p_a L_a.length q_a), (Iv (L_a.length : Int)), (.slice (some ⟨b3, 0, none⟩) L_a.length L_a.length), (Iv (k : Int)), (.slice p_a L_a.length q_a), (Iv (L_a.length : Int)), (Bo (icmp .lss (k : Int) (L_a.length : Int))), (u15 12), (u15 13), (.slice (some ⟨b3, 0, none⟩) L_a.length L_a.length), (Iv (k : Int)), (.slice p_a L_a.length q_a), (u15 17), (u15 18), (u15 19), (u15 20), Ud]) rfl rfl (does_move (u := (.slice p_a L_a.length q_a)) (ev rfl)) rfl ?_
      refine q_is (l' := [(.slice p_a L_a.length q_a), Ud, (.slice none 0 0), (.slice (some ⟨b3, 0, none⟩) L_a.length L_a.length), (Iv (k : Int)), (.slice p_a L_a.length q_a), (Iv (L_a.length : Int)), (.slice (some ⟨b3, 0, none⟩) L_a.length L_a.length), (Iv (k : Int)), (.slice p_a L_a.length q_a), (Iv (L_a.length : Int)), (Bo (icmp .lss (k : Int) (L_a.length : Int))), (u15 12), (u15 13), (.slice (some ⟨b3, 0, none⟩) L_a.length L_a.length), (Iv (k : Int)), (.slice p_a L_a.length q_a), (Iv (k : Int)), (u15 18), (u15 19), (u15 20), Ud]) rfl rfl (does_move (u := (Iv (k : Int))) (ev rfl)) rfl ?_
      obtain ⟨el1, hel1⟩ : ∃ e, L_a[k]? = some e := ⟨_, List.getElem?_eq_getElem (by omega)⟩
      refine seqd rfl rfl (does_indexSl (R := RI) (i := (k : Int)) (xs := L_a) (e := el1) Try.underlying38 Try.sizeOf2 (ev rfl) (ev rfl) (Sl.ext hv_a RI.mono X19) (by omega) hel1) ?_; rintro _ w16 ⟨b24, o25, _, rfl, hc27, rfl, rfl⟩
      show wpList _ _ _ _ (fr [(.slice p_a L_a.length q_a), Ud, (.slice none 0 0), (.slice (some ⟨b3, 0, none⟩) L_a.length L_a.length), (Iv (k : Int)), (.slice p_a L_a.length q_a), (Iv (L_a.length : Int)), (.slice (some ⟨b3, 0, none⟩) L_a.length L_a.length), (Iv (k : Int)), (.slice p_a L_a.length q_a), (Iv (L_a.length : Int)), (Bo (icmp .lss (k : Int) (L_a.length : Int))), (u15 12), (u15 13), (.slice (some ⟨b3, 0, none⟩) L_a.length L_a.length), (Iv (k : Int)), (.slice p_a L_a.length q_a), (Iv (k : Int)), (Pt b24 o25), (u15 19), (u15 20), Ud]) _
      refine q_is (l' := [(.slice p_a L_a.length q_a), Ud, (.slice none 0 0), (.slice (some ⟨b3, 0, none⟩) L_a.length L_a.length), (Iv (k : Int)), (.slice p_a L_a.length q_a), (Iv (L_a.length : Int)), (.slice (some ⟨b3, 0, none⟩) L_a.length L_a.length), (Iv (k : Int)), (.slice p_a L_a.length q_a), (Iv (L_a.length : Int)), (Bo (icmp .lss (k : Int) (L_a.length : Int))), (u15 12), (u15 13), (.slice (some ⟨b3, 0, none⟩) L_a.length L_a.length), (Iv (k : Int)), (.slice p_a L_a.length q_a), (Iv (k : Int)), (Pt b24 o25), (Iv el1), (u15 20), Ud]) rfl rfl (does_load (u := (Iv el1)) (ev rfl) Try.isAgg2 (Cells.at hc27 0 rfl)) rfl ?_
      refine q_is (l' := [(.slice p_a L_a.length q_a), Ud, (.slice none 0 0), (.slice (some ⟨b3, 0, none⟩) L_a.length L_a.length), (Iv (k : Int)), (.slice p_a L_a.length q_a), (Iv (L_a.length : Int)), (.slice (some ⟨b3, 0, none⟩) L_a.length L_a.length), (Iv (k : Int)), (.slice p_a L_a.length q_a), (Iv (L_a.length : Int)), (Bo (icmp .lss (k : Int) (L_a.length : Int))), (u15 12), (u15 13), (.slice (some ⟨b3, 0, none⟩) L_a.length L_a.length), (Iv (k : Int)), (.slice p_a L_a.length q_a), (Iv (k : Int)), (Pt b24 o25), (Iv el1), (Pt b3 (k * 1)), Ud]) rfl rfl (does_indexOwn (b := b3) (n := L_a.length) (i := (k : Int)) Try.underlying38 Try.sizeOf2 (ev rfl) (ev rfl) (by omega) (by omega)) rfl ?_
      refine seqn rfl rfl (does_fill (R := RI) (k := 1) (n := L_a.length) (j := k) (xs := L_a) (u := (Iv el1)) (e := el1) (ev rfl) (ev rfl) Try.sizeOf2 rfl rfl hF18 (by omega) hel1 (fun _ => rfl) (fun _ _ _ _ h => h)) ?_; rintro _ w30 ⟨rfl, W28, hF29⟩
      have X31 := Below.wr X19 W28 g11
      refine wpList_nil (hK23 _ _ ?_)
      refine wp_region_lit ?_
      refine q_is (l' := [(.slice p_a L_a.length q_a), Ud, (.slice none 0 0), (.slice (some ⟨b3, 0, none⟩) L_a.length L_a.length), (Iv (k : Int)), (.slice p_a L_a.length q_a), (Iv (L_a.length : Int)), (.slice (some ⟨b3, 0, none⟩) L_a.length L_a.length), (Iv (k : Int)), (.slice p_a L_a.length q_a), (Iv (L_a.length : Int)), (Bo (icmp .lss (k : Int) (L_a.length : Int))), (Iv (k : Int)), (u15 13), (.slice (some ⟨b3, 0, none⟩) L_a.length L_a.length), (Iv (k : Int)), (.slice p_a L_a.length q_a), (Iv (k : Int)), (Pt b24 o25), (Iv el1), (Pt b3 (k * 1)), Ud]) rfl rfl (does_move (u := (Iv (k : Int))) (ev rfl)) rfl ?_
      refine q_is (l' := [(.slice p_a L_a.length q_a), Ud, (.slice none 0 0), (.slice (some ⟨b3, 0, none⟩) L_a.length L_a.length), (Iv (k : Int)), (.slice p_a L_a.length q_a), (Iv (L_a.length : Int)), (.slice (some ⟨b3, 0, none⟩) L_a.length L_a.length), (Iv (k : Int)), (.slice p_a L_a.length q_a), (Iv (L_a.length : Int)), (Bo (icmp .lss (k : Int) (L_a.length : Int))), (Iv (k : Int)), (Iv ((k : Int) + 1)), (.slice (some ⟨b3, 0, none⟩) L_a.length L_a.length), (Iv (k : Int)), (.slice p_a L_a.length q_a), (Iv (k : Int)), (Pt b24 o25), (Iv el1), (Pt b3 (k * 1)), Ud]) rfl rfl (does_iarith (p := (k : Int)) (q := 1) (r := (k : Int) + 1) (ev rfl) (ev rfl) (.inl ⟨rfl, (in_i64 (by omega) (by omega)).symm⟩)) rfl ?_
      refine q_is (l' := [(.slice p_a L_a.length q_a), Ud, (.slice none 0 0), (.slice (some ⟨b3, 0, none⟩) L_a.length L_a.length), (Iv ((k : Int) + 1)), (.slice p_a L_a.length q_a), (Iv (L_a.length : Int)), (.slice (some ⟨b3, 0, none⟩) L_a.length L_a.length), (Iv (k : Int)), (.slice p_a L_a.length q_a), (Iv (L_a.length : Int)), (Bo (icmp .lss (k : Int) (L_a.length : Int))), (Iv (k : Int)), (Iv ((k : Int) + 1)), (.slice (some ⟨b3, 0, none⟩) L_a.length L_a.length), (Iv (k : Int)), (.slice p_a L_a.length q_a), (Iv (k : Int)), (Pt b24 o25), (Iv el1), (Pt b3 (k * 1)), Ud]) rfl rfl (does_assign (u := (Iv ((k : Int) + 1))) (ev rfl)) rfl ?_
      refine wpList_nil ?_
      refine ⟨k + 1, ⟨fun t => (([(.slice p_a L_a.length q_a), Ud, (.slice none 0 0), (.slice (some ⟨b3, 0, none⟩) L_a.length L_a.length), (Iv ((k : Int) + 1)), (.slice p_a L_a.length q_a), (Iv (L_a.length : Int)), (.slice (some ⟨b3, 0, none⟩) L_a.length L_a.length), (Iv (k : Int)), (.slice p_a L_a.length q_a), (Iv (L_a.length : Int)), (Bo (icmp .lss (k : Int) (L_a.length : Int))), (Iv (k : Int)), (Iv ((k : Int) + 1)), (.slice (some ⟨b3, 0, none⟩) L_a.length L_a.length), (Iv (k : Int)), (.slice p_a L_a.length q_a), (Iv (k : Int)), (Pt b24 o25), (Iv el1), (Pt b3 (k * 1)), Ud] : List Value)[t]?).getD undef, ?_, (KpL.more E17 (KpL.of_wr W28) (allS (.inl (by simp)) all0)), hF29, ?_⟩, ?_⟩
      · first | rfl | (simp only [Nat.cast_add, Nat.cast_one, Int.natCast_add, Int.natCast_one]; rfl)
      · omega
      · omega
    have c22' := c22
    (try simp only [icmp, Bool.and_eq_true, Bool.or_eq_true, Bool.and_eq_false_iff, Bool.or_eq_false_iff, Bool.not_eq_true', Bool.not_eq_false', decide_eq_true_eq, decide_eq_false_iff_not, beq_iff_eq, bne_iff_ne, beq_eq_false_iff_ne, bne_eq_false_iff_eq] at c22')
    refine wp_exit ?_
    refine hK13 _ _ ?_
    refine wp_seq_k fun K32 hK32 => ?_
    refine wp_region_lit ?_
    refine q_is (l' := [(.slice p_a L_a.length q_a), Ud, (.slice none 0 0), (.slice (some ⟨b3, 0, none⟩) L_a.length L_a.length), (Iv (k : Int)), (.slice p_a L_a.length q_a), (Iv (L_a.length : Int)), (.slice (some ⟨b3, 0, none⟩) L_a.length L_a.length), (Iv (k : Int)), (.slice p_a L_a.length q_a), (Iv (L_a.length : Int)), (Bo (icmp .lss (k : Int) (L_a.length : Int))), (u15 12), (u15 13), (u15 14), (u15 15), (u15 16), (u15 17), (u15 18), (u15 19), (u15 20), (.slice (some ⟨b3, 0, none⟩) L_a.length L_a.length)]) rfl rfl (does_move (u := (.slice (some ⟨b3, 0, none⟩) L_a.length L_a.length)) (ev rfl)) rfl ?_
    refine q_is (l' := [(.slice p_a L_a.length q_a), Ud, (.slice (some ⟨b3, 0, none⟩) L_a.length L_a.length), (.slice (some ⟨b3, 0, none⟩) L_a.length L_a.length), (Iv (k : Int)), (.slice p_a L_a.length q_a), (Iv (L_a.length : Int)), (.slice (some ⟨b3, 0, none⟩) L_a.length L_a.length), (Iv (k : Int)), (.slice p_a L_a.length q_a), (Iv (L_a.length : Int)), (Bo (icmp .lss (k : Int) (L_a.length : Int))), (u15 12), (u15 13), (u15 14), (u15 15), (u15 16), (u15 17), (u15 18), (u15 19), (u15 20), (.slice (some ⟨b3, 0, none⟩) L_a.length L_a.length)]) rfl rfl (does_assign (u := (.slice (some ⟨b3, 0, none⟩) L_a.length L_a.length)) (ev rfl)) rfl ?_
    refine wpList_nil (hK32 _ _ ?_)
    refine wp_ret ?_
    refine ret_val (v := (.slice (some ⟨b3, 0, none⟩) L_a.length L_a.length)) (res_T rfl (slot rfl)) X19 ?_
    exact ⟨(.slice (some ⟨b3, 0, none⟩) L_a.length L_a.length), [b3], rfl, (Fill.hang hF18 RI.flat g11 (by omega) rfl (by omega) (by decide)), (Fill.wl hF18 g11)⟩

/- (*impl.Grid).counts -/
theorem c_impl_Grid_counts (g_b : Nat) (g_o : Nat) (g : List Value) (A_g : GridT) (w : World) (hc_g : Cells w g_b g_o g) (hv_g : RGridT w A_g g) : Gives Try.prog 39 #[(Pt g_b g_o)] w (fun v w' => v = (.agg #[(Iv A_g.x), (Iv A_g.y), (Iv A_g.z)])) := by
  obtain ⟨r1, r3, r5, r7, y9, rfl, h2, h4, h6, h8, h10⟩ := hv_g
  have hs13 := h10; have hs13l := Sl.len h10; obtain ⟨p11, q12, rfl⟩ := Sl.shape h10
  refine enter [(Pt g_b g_o), Ud, Ud, Ud, Ud, Ud, Ud, Ud, Ud, Ud, Ud, Ud, Ud, Ud, Ud, Ud] Try.func39 rfl Try.ntmps39 rfl ?_
  refine wp_seq_k fun K14 hK14 => ?_
  refine wp_region_lit ?_
  refine seqd rfl rfl (does_alloc z55) ?_; rintro _ w19 ⟨b15, rfl, hb16, hB17, E18⟩
  have n20 : g_b < b15 := Nat.lt_of_lt_of_le (cell_lt (Cells.at hc_g 0 rfl)) hb16
  have g21 : w.heap.size ≤ b15 := Nat.le_trans (Below.size (Ext.refl w)) hb16
  change Blk _ _ [(Iv 0), (Iv 0), (Iv 0)] at hB17
  have X22 := Ext.gr (Ext.refl w) E18
  show wpList _ _ _ _ (fr [(Pt g_b g_o), Ud, (Pt b15 0), Ud, Ud, Ud, Ud, Ud, Ud, Ud, Ud, Ud, Ud, Ud, Ud, Ud]) _
  refine wpList_nil (hK14 _ _ ?_)
  refine wp_seq_k fun K23 hK23 => ?_
  refine region_draw (
    [Fact.pure [] (fun v => v = (Pt g_b g_o)),
    Fact.pure [3] (fun v => v = (Pt g_b g_o)),
    Fact.pure [4] (fun v => v = (Pt g_b (g_o + 4))),
    Fact.pure [5] (fun v => v = (Iv A_g.x)),
    Fact.pure [] (fun v => v = (Pt g_b g_o)),
    Fact.pure [7] (fun v => v = (Pt g_b g_o)),
    Fact.pure [8] (fun v => v = (Pt g_b (g_o + 5))),
    Fact.pure [9] (fun v => v = (Iv A_g.y)),
    Fact.pure [] (fun v => v = (Pt g_b g_o)),
    Fact.pure [11] (fun v => v = (Pt g_b g_o)),
    Fact.pure [12] (fun v => v = (Pt g_b (g_o + 6))),
    Fact.pure [13] (fun v => v = (Iv A_g.z)),
    Fact.pure [6, 10, 14] (fun v => v = (.agg #[(Iv A_g.x), (Iv A_g.y), (Iv A_g.z)]))]) mixed (by kernel_rfl) (by intro _ _ d _ _ h; cases d <;> exact h) ?_
  obtain ⟨w24, hw26⟩ : ∃ w', w' = World.drew w19 := ⟨_, rfl⟩; rw [← hw26]; have E25 : Ext w19 w24 := by rw [hw26]; exact Ext.draw _
  clear hw26
  have X27 := Ext.gr X22 E25
  refine RW_d (fun v28 => [(Pt g_b g_o), Ud, (Pt b15 0), v28, Ud, Ud, Ud, Ud, Ud, Ud, Ud, Ud, Ud, Ud, Ud, Ud]) rfl (fun _ => rfl) (fun u hu hF => ?_) (fun v28 => ?_)
  · clear hF
    refine doesG_un rfl ?_
    refine (does_move (u := (Pt g_b g_o)) (ev rfl)).mono ?_; rintro _ _ ⟨rfl, rfl⟩
    exact ⟨rfl, Ext.refl _⟩
  refine RW_d (fun v29 => [(Pt g_b g_o), Ud, (Pt b15 0), v28, v29, Ud, Ud, Ud, Ud, Ud, Ud, Ud, Ud, Ud, Ud, Ud]) rfl (fun _ => rfl) (fun u hu hF => ?_) (fun v29 => ?_)
  · have h3_ : v28 = (Pt g_b g_o) := hF.1
    clear hF
    refine doesG_un rfl ?_
    obtain rfl := h3_
    refine (does_nilCheck (ev rfl)).mono ?_; rintro _ _ ⟨rfl, rfl⟩
    exact ⟨rfl, Ext.refl _⟩
  refine RW_d (fun v30 => [(Pt g_b g_o), Ud, (Pt b15 0), v28, v29, v30, Ud, Ud, Ud, Ud, Ud, Ud, Ud, Ud, Ud, Ud]) rfl (fun _ => rfl) (fun u hu hF => ?_) (fun v30 => ?_)
  · have h4_ : v29 = (Pt g_b g_o) := hF.1
    clear hF
    refine doesG_un rfl ?_
    obtain rfl := h4_
    refine (does_fieldAddr (ev rfl) fa31_2).mono ?_; rintro _ _ ⟨rfl, rfl⟩
    exact ⟨rfl, Ext.refl _⟩
  refine RW_d (fun v31 => [(Pt g_b g_o), Ud, (Pt b15 0), v28, v29, v30, v31, Ud, Ud, Ud, Ud, Ud, Ud, Ud, Ud, Ud]) rfl (fun _ => rfl) (fun u hu hF => ?_) (fun v31 => ?_)
  · have h5_ : v30 = (Pt g_b (g_o + 4)) := hF.1
    clear hF
    refine doesG_un rfl ?_
    obtain rfl := h5_
    refine (does_load (u := (Iv A_g.x)) (ev rfl) Try.isAgg2 (Cells.at ((hc_g.ext (Ext.gr X22 E25)).ext hu) 4 rfl)).mono ?_; rintro _ _ ⟨rfl, rfl⟩
    exact ⟨rfl, Ext.refl _⟩
  refine RW_d (fun v32 => [(Pt g_b g_o), Ud, (Pt b15 0), v28, v29, v30, v31, v32, Ud, Ud, Ud, Ud, Ud, Ud, Ud, Ud]) rfl (fun _ => rfl) (fun u hu hF => ?_) (fun v32 => ?_)
  · clear hF
    refine doesG_un rfl ?_
    refine (does_move (u := (Pt g_b g_o)) (ev rfl)).mono ?_; rintro _ _ ⟨rfl, rfl⟩
    exact ⟨rfl, Ext.refl _⟩
  refine RW_d (fun v33 => [(Pt g_b g_o), Ud, (Pt b15 0), v28, v29, v30, v31, v32, v33, Ud, Ud, Ud, Ud, Ud, Ud, Ud]) rfl (fun _ => rfl) (fun u hu hF => ?_) (fun v33 => ?_)
  · have h7_ : v32 = (Pt g_b g_o) := hF.1
    clear hF
    refine doesG_un rfl ?_
    obtain rfl := h7_
    refine (does_nilCheck (ev rfl)).mono ?_; rintro _ _ ⟨rfl, rfl⟩
    exact ⟨rfl, Ext.refl _⟩
  refine RW_d (fun v34 => [(Pt g_b g_o), Ud, (Pt b15 0), v28, v29, v30, v31, v32, v33, v34, Ud, Ud, Ud, Ud, Ud, Ud]) rfl (fun _ => rfl) (fun u hu hF => ?_) (fun v34 => ?_)
  · have h8_ : v33 = (Pt g_b g_o) := hF.1
    clear hF
    refine doesG_un rfl ?_
    obtain rfl := h8_
    refine (does_fieldAddr (ev rfl) fa31_3).mono ?_; rintro _ _ ⟨rfl, rfl⟩
    exact ⟨rfl, Ext.refl _⟩
  refine RW_d (fun v35 => [(Pt g_b g_o), Ud, (Pt b15 0), v28, v29, v30, v31, v32, v33, v34, v35, Ud, Ud, Ud, Ud, Ud]) rfl (fun _ => rfl) (fun u hu hF => ?_) (fun v35 => ?_)
  · have h9_ : v34 = (Pt g_b (g_o + 5)) := hF.1
    clear hF
    refine doesG_un rfl ?_
    obtain rfl := h9_
    refine (does_load (u := (Iv A_g.y)) (ev rfl) Try.isAgg2 (Cells.at ((hc_g.ext (Ext.gr X22 E25)).ext hu) 5 rfl)).mono ?_; rintro _ _ ⟨rfl, rfl⟩
    exact ⟨rfl, Ext.refl _⟩
  refine RW_d (fun v36 => [(Pt g_b g_o), Ud, (Pt b15 0), v28, v29, v30, v31, v32, v33, v34, v35, v36, Ud, Ud, Ud, Ud]) rfl (fun _ => rfl) (fun u hu hF => ?_) (fun v36 => ?_)
  · clear hF
    refine doesG_un rfl ?_
    refine (does_move (u := (Pt g_b g_o)) (ev rfl)).mono ?_; rintro _ _ ⟨rfl, rfl⟩
    exact ⟨rfl, Ext.refl _⟩
  refine RW_d (fun v37 => [(Pt g_b g_o), Ud, (Pt b15 0), v28, v29, v30, v31, v32, v33, v34, v35, v36, v37, Ud, Ud, Ud]) rfl (fun _ => rfl) (fun u hu hF => ?_) (fun v37 => ?_)
  · have h11_ : v36 = (Pt g_b g_o) := hF.1
    clear hF
    refine doesG_un rfl ?_
    obtain rfl := h11_
    refine (does_nilCheck (ev rfl)).mono ?_; rintro _ _ ⟨rfl, rfl⟩
    exact ⟨rfl, Ext.refl _⟩
  refine RW_d (fun v38 => [(Pt g_b g_o), Ud, (Pt b15 0), v28, v29, v30, v31, v32, v33, v34, v35, v36, v37, v38, Ud, Ud]) rfl (fun _ => rfl) (fun u hu hF => ?_) (fun v38 => ?_)
  · have h12_ : v37 = (Pt g_b g_o) := hF.1
    clear hF
    refine doesG_un rfl ?_
    obtain rfl := h12_
    refine (does_fieldAddr (ev rfl) fa31_4).mono ?_; rintro _ _ ⟨rfl, rfl⟩
    exact ⟨rfl, Ext.refl _⟩
  refine RW_d (fun v39 => [(Pt g_b g_o), Ud, (Pt b15 0), v28, v29, v30, v31, v32, v33, v34, v35, v36, v37, v38, v39, Ud]) rfl (fun _ => rfl) (fun u hu hF => ?_) (fun v39 => ?_)
  · have h13_ : v38 = (Pt g_b (g_o + 6)) := hF.1
    clear hF
    refine doesG_un rfl ?_
    obtain rfl := h13_
    refine (does_load (u := (Iv A_g.z)) (ev rfl) Try.isAgg2 (Cells.at ((hc_g.ext (Ext.gr X22 E25)).ext hu) 6 rfl)).mono ?_; rintro _ _ ⟨rfl, rfl⟩
    exact ⟨rfl, Ext.refl _⟩
  refine RW_d (fun v40 => [(Pt g_b g_o), Ud, (Pt b15 0), v28, v29, v30, v31, v32, v33, v34, v35, v36, v37, v38, v39, v40]) rfl (fun _ => rfl) (fun u hu hF => ?_) (fun v40 => ?_)
  · have h6_ : v31 = (Iv A_g.x) := hF.1
    have h10_ : v35 = (Iv A_g.y) := hF.2.1
    have h14_ : v39 = (Iv A_g.z) := hF.2.2.1
    clear hF
    refine doesG_un rfl ?_
    obtain rfl := h6_
    obtain rfl := h10_
    obtain rfl := h14_
    refine (does_build (parts' := [(0, (Iv A_g.x)), (1, (Iv A_g.y)), (2, (Iv A_g.z))]) (cells := #[(Iv A_g.x), (Iv A_g.y), (Iv A_g.z)]) (evp rfl) (by kernel_rfl)).mono ?_; rintro _ _ ⟨rfl, rfl⟩
    exact ⟨rfl, Ext.refl _⟩
  refine RW_fin ?_; intro w41 E42 hP43
  obtain ⟨⟨⟨⟨⟨⟨⟨⟨⟨⟨⟨⟨⟨-, -⟩, -⟩, -⟩, -⟩, -⟩, -⟩, -⟩, -⟩, -⟩, -⟩, -⟩, -⟩, q44⟩ := hP43
  have X45 := Ext.gr X27 E42
  have q44 : v40 = (.agg #[(Iv A_g.x), (Iv A_g.y), (Iv A_g.z)]) := q44
  obtain rfl := q44
  show wpList _ _ _ _ (fr [(Pt g_b g_o), Ud, (Pt b15 0), v28, v29, v30, v31, v32, v33, v34, v35, v36, v37, v38, v39, (.agg #[(Iv A_g.x), (Iv A_g.y), (Iv A_g.z)])]) _
  refine seqn rfl rfl (does_store (n := 3) (cs := [(Iv 0), (Iv 0), (Iv 0)]) (u := (.agg #[(Iv A_g.x), (Iv A_g.y), (Iv A_g.z)])) (ev rfl) (ev rfl) Try.sizeOf55 rfl ((hB17.ext E25).ext E42) (Nat.le_of_ble_eq_true rfl) rfl) ?_; rintro _ w48 ⟨rfl, W46, hB47⟩
  change Blk _ _ [(Iv A_g.x), (Iv A_g.y), (Iv A_g.z)] at hB47
  have X49 := Below.wr X45 W46 g21
  refine wpList_nil (hK23 _ _ ?_)
  refine wp_ret ?_
  refine ret_val (v := (.agg #[(Iv A_g.x), (Iv A_g.y), (Iv A_g.z)])) (res_C rfl (slot rfl) (run_loadAgg (cs := [(Iv A_g.x), (Iv A_g.y), (Iv A_g.z)]) Try.isAgg55 Try.sizeOf55 (Blk.cells hB47) rfl)) X49 ?_
  have x50 : (A_g.x : Int) = A_g.x := by first | with_reducible rfl | (simp only [h2, h4, h6, h8]; done) | (simp [h2, h4, h6, h8]; done) | rfl
  have x51 : (A_g.y : Int) = A_g.y := by first | with_reducible rfl | (simp only [h2, h4, h6, h8]; done) | (simp [h2, h4, h6, h8]; done) | rfl
  have x52 : (A_g.z : Int) = A_g.z := by first | with_reducible rfl | (simp only [h2, h4, h6, h8]; done) | (simp [h2, h4, h6, h8]; done) | rfl
  exact (by first | rfl | rw [x50, x51, x52] | rw [x52, x51, x50])

/- impl.in -/
theorem c_impl_in (n : Int) (low : Int) (high : Int) (w : World) : Gives Try.prog 40 #[(Iv n), (Iv low), (Iv high)] w (fun v w' => v = (Bo (inI n low high))) := by
  refine enter [(Iv n), (Iv low), (Iv high), Ud, Ud, Ud, Ud, Ud, Ud, Ud, Ud, Ud, Ud, Ud, Ud] Try.func40 rfl Try.ntmps40 rfl ?_
  refine wp_seq_k fun K1 hK1 => ?_
  refine wp_region_lit ?_
  refine q_is (l' := [(Iv n), (Iv low), (Iv high), Ud, Ud, Ud, (Bo false), Ud, Ud, Ud, Ud, Ud, Ud, Ud, Ud]) rfl rfl (does_assign (u := (Bo false)) (ev rfl)) rfl ?_
  refine wpList_nil (hK1 _ _ ?_)
  refine wp_seq_k fun K2 hK2 => ?_
  obtain ⟨β1, hβ1⟩ : ∃ b : Bool, b = ((icmp .geq n low) && (icmp .leq n high)) := ⟨_, rfl⟩
  refine region_text (
    [Fact.pure [] (fun v => v = (Iv n)),
    Fact.pure [] (fun v => v = (Iv low)),
    Fact.pure [7, 8] (fun v => v = (Bo (icmp .geq n low))),
    Fact.pure [9] (fun v => v = (Bo (icmp .geq n low))),
    Fact.pure [10] (fun v => (icmp .geq n low) = true → v = (Iv n)),
    Fact.pure [10] (fun v => (icmp .geq n low) = true → v = (Iv high)),
    Fact.pure [11, 12, 10] (fun v => (icmp .geq n low) = true → v = (Bo (icmp .leq n high))),
    Fact.pure [10, 13] (fun v => v = (Bo β1))]) (by simp [Fact.pure, Fact.mem]) ?_
  refine RW_d (fun v3 => [(Iv n), (Iv low), (Iv high), Ud, Ud, Ud, (Bo false), v3, Ud, Ud, Ud, Ud, Ud, Ud, Ud]) rfl (fun _ => rfl) (fun u hu hF => ?_) (fun v3 => ?_)
  · clear hF
    refine doesG_un rfl ?_
    refine (does_move (u := (Iv n)) (ev rfl)).mono ?_; rintro _ _ ⟨rfl, rfl⟩
    exact ⟨rfl, Ext.refl _⟩
  refine RW_d (fun v4 => [(Iv n), (Iv low), (Iv high), Ud, Ud, Ud, (Bo false), v3, v4, Ud, Ud, Ud, Ud, Ud, Ud]) rfl (fun _ => rfl) (fun u hu hF => ?_) (fun v4 => ?_)
  · clear hF
    refine doesG_un rfl ?_
    refine (does_move (u := (Iv low)) (ev rfl)).mono ?_; rintro _ _ ⟨rfl, rfl⟩
    exact ⟨rfl, Ext.refl _⟩
  refine RW_d (fun v5 => [(Iv n), (Iv low), (Iv high), Ud, Ud, Ud, (Bo false), v3, v4, v5, Ud, Ud, Ud, Ud, Ud]) rfl (fun _ => rfl) (fun u hu hF => ?_) (fun v5 => ?_)
  · have h7_ : v3 = (Iv n) := hF.1
    have h8_ : v4 = (Iv low) := hF.2.1
    clear hF
    refine doesG_un rfl ?_
    obtain rfl := h7_
    obtain rfl := h8_
    refine (does_icmp (p := n) (q := low) (.inr (.inr (.inr (.inr (.inr rfl))))) (ev rfl) (ev rfl)).mono ?_; rintro _ _ ⟨rfl, rfl⟩
    exact ⟨rfl, Ext.refl _⟩
  refine RW_d (fun v6 => [(Iv n), (Iv low), (Iv high), Ud, Ud, Ud, (Bo false), v3, v4, v5, v6, Ud, Ud, Ud, Ud]) rfl (fun _ => rfl) (fun u hu hF => ?_) (fun v6 => ?_)
  · have h9_ : v5 = (Bo (icmp .geq n low)) := hF.1
    clear hF
    refine doesG_un rfl ?_
    obtain rfl := h9_
    refine (does_move (u := (Bo (icmp .geq n low))) (ev rfl)).mono ?_; rintro _ _ ⟨rfl, rfl⟩
    exact ⟨rfl, Ext.refl _⟩
  refine RW_d (fun v7 => [(Iv n), (Iv low), (Iv high), Ud, Ud, Ud, (Bo false), v3, v4, v5, v6, v7, Ud, Ud, Ud]) rfl (fun _ => rfl) (fun u hu hF => ?_) (fun v7 => ?_)
  · have h10_ : v6 = (Bo (icmp .geq n low)) := hF.1
    clear hF
    obtain rfl := h10_
    refine doesG_g (b := (icmp .geq n low)) rfl (yld rfl rfl) (fun hg1 => ?_) (fun hc => ⟨fun hg1 => absurd hg1 hc, Ext.refl _⟩)
    refine (does_move (u := (Iv n)) (ev rfl)).mono ?_; rintro _ _ ⟨rfl, rfl⟩
    exact ⟨fun _ => rfl, Ext.refl _⟩
  refine RW_d (fun v8 => [(Iv n), (Iv low), (Iv high), Ud, Ud, Ud, (Bo false), v3, v4, v5, v6, v7, v8, Ud, Ud]) rfl (fun _ => rfl) (fun u hu hF => ?_) (fun v8 => ?_)
  · have h10_ : v6 = (Bo (icmp .geq n low)) := hF.1
    clear hF
    obtain rfl := h10_
    refine doesG_g (b := (icmp .geq n low)) rfl (yld rfl rfl) (fun hg1 => ?_) (fun hc => ⟨fun hg1 => absurd hg1 hc, Ext.refl _⟩)
    refine (does_move (u := (Iv high)) (ev rfl)).mono ?_; rintro _ _ ⟨rfl, rfl⟩
    exact ⟨fun _ => rfl, Ext.refl _⟩
  refine RW_d (fun v9 => [(Iv n), (Iv low), (Iv high), Ud, Ud, Ud, (Bo false), v3, v4, v5, v6, v7, v8, v9, Ud]) rfl (fun _ => rfl) (fun u hu hF => ?_) (fun v9 => ?_)
  · have h11_ : (icmp .geq n low) = true → v7 = (Iv n) := hF.1
    have h12_ : (icmp .geq n low) = true → v8 = (Iv high) := hF.2.1
    have h10_ : v6 = (Bo (icmp .geq n low)) := hF.2.2.1
    clear hF
    obtain rfl := h10_
    refine doesG_g (b := (icmp .geq n low)) rfl (yld rfl rfl) (fun hg1 => ?_) (fun hc => ⟨fun hg1 => absurd hg1 hc, Ext.refl _⟩)
    obtain rfl := h11_ hg1
    obtain rfl := h12_ hg1
    refine (does_icmp (p := n) (q := high) (.inr (.inr (.inr (.inl rfl)))) (ev rfl) (ev rfl)).mono ?_; rintro _ _ ⟨rfl, rfl⟩
    exact ⟨fun _ => rfl, Ext.refl _⟩
  refine RW_d (fun v10 => [(Iv n), (Iv low), (Iv high), Ud, Ud, Ud, (Bo false), v3, v4, v5, v6, v7, v8, v9, v10]) rfl (fun _ => rfl) (fun u hu hF => ?_) (fun v10 => ?_)
  · have h10_ : v6 = (Bo (icmp .geq n low)) := hF.1
    have h13_ : (icmp .geq n low) = true → v9 = (Bo (icmp .leq n high)) := hF.2.1
    clear hF
    refine doesG_un rfl ?_
    skip
    obtain rfl := h10_
    refine (does_pick (b := (icmp .geq n low)) (ev rfl) (ev rfl) (ev rfl)).mono ?_; rintro _ _ ⟨rfl, rfl⟩; refine ⟨?_, Ext.refl _⟩; rw [hβ1]; skip
    cases hbb : (icmp .geq n low) <;> simp [hbb] at h13_ ⊢
    all_goals (first | rfl | (subst h13_; rfl) | simp_all)
  refine RW_fin ?_; intro w11 E12 hP13
  obtain ⟨⟨⟨⟨⟨⟨⟨⟨-, -⟩, -⟩, -⟩, -⟩, -⟩, -⟩, -⟩, q14⟩ := hP13
  have X15 := Ext.gr (Ext.refl w) E12
  have q14 : v10 = (Bo β1) := q14
  obtain rfl := q14
  show wpList _ _ _ _ (fr [(Iv n), (Iv low), (Iv high), Ud, Ud, Ud, (Bo false), v3, v4, v5, v6, v7, v8, v9, (Bo β1)]) _
  refine q_is (l' := [(Iv n), (Iv low), (Iv high), Ud, Ud, Ud, (Bo β1), v3, v4, v5, v6, v7, v8, v9, (Bo β1)]) rfl rfl (does_assign (u := (Bo β1)) (ev rfl)) rfl ?_
  refine wpList_nil (hK2 _ _ ?_)
  refine wp_ret ?_
  refine ret_val (v := (Bo β1)) (res_T rfl (slot rfl)) X15 ?_
  have x16 : (inI n low high) = β1 := by first | with_reducible rfl | (simp only [inI, hβ1]; done) | (simp [inI, hβ1]; done) | rfl
  exact (by first | rfl | rw [x16])

/- slices.IndexFunc[[]float32,float32] -/
theorem c_slices_IndexFunc_float32_float32 (xs : Value) (L_xs : List Nat) (f : Value) (pr_f : Nat → Bool) (w : World) (hv_xs : Sl RF 1 w xs L_xs) (hv_f : TellsF Try.prog f w pr_f) : Gives Try.prog 63 #[xs, f] w (fun v w' => v = (Iv (findI pr_f L_xs))) := by
  have hlen_xs := Sl.len hv_xs; obtain ⟨p_xs, q_xs, rfl⟩ := Sl.shape hv_xs
  obtain ⟨f_f, s_f, c_f, rfl, hcal_f, hg_f⟩ := hv_f
  refine enter [(.slice p_xs L_xs.length q_xs), (.func (.func f_f) s_f c_f), Ud, Ud, Ud, Ud, Ud, Ud, Ud, Ud, Ud, Ud, Ud, Ud, Ud, Ud, Ud, Ud, Ud] Try.func63 rfl Try.ntmps63 rfl ?_
  refine wp_seq_k fun K1 hK1 => ?_
  refine wp_region_lit ?_
  refine q_is (l' := [(.slice p_xs L_xs.length q_xs), (.func (.func f_f) s_f c_f), Ud, Ud, (Iv 0), Ud, Ud, Ud, Ud, Ud, Ud, Ud, Ud, Ud, Ud, Ud, Ud, Ud, Ud]) rfl rfl (does_assign (u := (Iv 0)) (ev rfl)) rfl ?_
  refine wpList_nil (hK1 _ _ ?_)
  refine wp_seq_k fun K2 hK2 => ?_
  refine wp_seq_k fun K3 hK3 => ?_
  refine wp_region_lit ?_
  refine q_is (l' := [(.slice p_xs L_xs.length q_xs), (.func (.func f_f) s_f c_f), Ud, Ud, (Iv 0), Ud, (.slice p_xs L_xs.length q_xs), Ud, Ud, Ud, Ud, Ud, Ud, Ud, Ud, Ud, Ud, Ud, Ud]) rfl rfl (does_move (u := (.slice p_xs L_xs.length q_xs)) (ev rfl)) rfl ?_
  refine q_is (l' := [(.slice p_xs L_xs.length q_xs), (.func (.func f_f) s_f c_f), Ud, Ud, (Iv 0), Ud, (.slice p_xs L_xs.length q_xs), (Iv (L_xs.length : Int)), Ud, Ud, Ud, Ud, Ud, Ud, Ud, Ud, Ud, Ud, Ud]) rfl rfl (does_len_slice Try.underlying25 (ev rfl)) rfl ?_
  refine q_is (l' := [(.slice p_xs L_xs.length q_xs), (.func (.func f_f) s_f c_f), Ud, Ud, (Iv 0), Ud, (.slice p_xs L_xs.length q_xs), (Iv (L_xs.length : Int)), (Iv 0), Ud, Ud, Ud, Ud, Ud, Ud, Ud, Ud, Ud, Ud]) rfl rfl (does_move (u := (Iv 0)) (ev rfl)) rfl ?_
  refine wpList_nil (hK3 _ _ ?_)
  refine wp_block ?_
  refine loop_ghost (σ := Nat) (fun k a w' => ∃ u4 : Nat → Value, a = fr [(.slice p_xs L_xs.length q_xs), (.func (.func f_f) s_f c_f), Ud, Ud, (u4 4), (u4 5), (.slice p_xs L_xs.length q_xs), (Iv (L_xs.length : Int)), (Iv (k : Int)), (u4 9), (u4 10), (u4 11), (u4 12), (u4 13), (u4 14), (u4 15), (u4 16), (u4 17), (u4 18)] ∧ Ext w w' ∧ (k ≤ L_xs.length ∧ NoneTo pr_f L_xs k)) (fun k => L_xs.length - k) 0 ?_ ?_
  · refine ⟨fun t => (([(.slice p_xs L_xs.length q_xs), (.func (.func f_f) s_f c_f), Ud, Ud, (Iv 0), Ud, (.slice p_xs L_xs.length q_xs), (Iv (L_xs.length : Int)), (Iv 0), Ud, Ud, Ud, Ud, Ud, Ud, Ud, Ud, Ud, Ud] : List Value)[t]?).getD undef, rfl, Ext.refl _, ?_⟩
    exact ⟨Nat.zero_le _, NoneTo.zero⟩
  · rintro k a w5 ⟨u4, rfl, E6, ⟨hk, hno⟩⟩
    have X8 := Ext.gr (Ext.refl w) E6
    refine wp_seq_k fun K9 hK9 => ?_
    refine wp_region_lit ?_
    refine q_is (l' := [(.slice p_xs L_xs.length q_xs), (.func (.func f_f) s_f c_f), Ud, Ud, (u4 4), (u4 5), (.slice p_xs L_xs.length q_xs), (Iv (L_xs.length : Int)), (Iv (k : Int)), (Bo (icmp .lss (k : Int) (L_xs.length : Int))), (u4 10), (u4 11), (u4 12), (u4 13), (u4 14), (u4 15), (u4 16), (u4 17), (u4 18)]) rfl rfl (does_icmp (p := (k : Int)) (q := (L_xs.length : Int)) (.inr (.inr (.inl rfl))) (ev rfl) (ev rfl)) rfl ?_
    refine wpList_nil (hK9 _ _ ?_)
    refine wp_seq_k fun K10 hK10 => ?_
    refine wp_cond_split (t := icmp .lss (k : Int) (L_xs.length : Int)) (ev rfl) (fun c11 => ?_) (fun c11 => ?_)
    · have c11' := c11
      (try simp only [icmp, Bool.and_eq_true, Bool.or_eq_true, Bool.and_eq_false_iff, Bool.or_eq_false_iff, Bool.not_eq_true', Bool.not_eq_false', decide_eq_true_eq, decide_eq_false_iff_not, beq_iff_eq, bne_iff_ne, beq_eq_false_iff_ne, bne_eq_false_iff_eq] at c11')
      refine wp_skip (hK10 _ _ ?_)
      refine wp_seq_k fun K12 hK12 => ?_
      refine wp_block ?_
      refine wp_seq_k fun K13 hK13 => ?_
      refine wp_region_lit ?_
      refine q_is (l' := [(.slice p_xs L_xs.length q_xs), (.func (.func f_f) s_f c_f), Ud, Ud, (u4 4), (u4 5), (.slice p_xs L_xs.length q_xs), (Iv (L_xs.length : Int)), (Iv (k : Int)), (Bo (icmp .lss (k : Int) (L_xs.length : Int))), (Iv (k : Int)), (u4 11), (u4 12), (u4 13), (u4 14), (u4 15), (u4 16), (u4 17), (u4 18)]) rfl rfl (does_move (u := (Iv (k : Int))) (ev rfl)) rfl ?_
      refine q_is (l' := [(.slice p_xs L_xs.length q_xs), (.func (.func f_f) s_f c_f), Ud, Ud, (u4 4), (Iv (k : Int)), (.slice p_xs L_xs.length q_xs), (Iv (L_xs.length : Int)), (Iv (k : Int)), (Bo (icmp .lss (k : Int) (L_xs.length : Int))), (Iv (k : Int)), (u4 11), (u4 12), (u4 13), (u4 14), (u4 15), (u4 16), (u4 17), (u4 18)]) rfl rfl (does_assign (u := (Iv (k : Int))) (ev rfl)) rfl ?_
      refine wpList_nil (hK13 _ _ ?_)
      refine wp_seq_k fun K14 hK14 => ?_
      refine wp_region_lit ?_
      refine q_is (l' := [(.slice p_xs L_xs.length q_xs), (.func (.func f_f) s_f c_f), Ud, Ud, (u4 4), (Iv (k : Int)), (.slice p_xs L_xs.length q_xs), (Iv (L_xs.length : Int)), (Iv (k : Int)), (Bo (icmp .lss (k : Int) (L_xs.length : Int))), (Iv (k : Int)), (.func (.func f_f) s_f c_f), (u4 12), (u4 13), (u4 14), (u4 15), (u4 16), (u4 17), (u4 18)]) rfl rfl (does_move (u := (.func (.func f_f) s_f c_f)) (ev rfl)) rfl ?_
      refine q_is (l' := [(.slice p_xs L_xs.length q_xs), (.func (.func f_f) s_f c_f), Ud, Ud, (u4 4), (Iv (k : Int)), (.slice p_xs L_xs.length q_xs), (Iv (L_xs.length : Int)), (Iv (k : Int)), (Bo (icmp .lss (k : Int) (L_xs.length : Int))), (Iv (k : Int)), (.func (.func f_f) s_f c_f), (.slice p_xs L_xs.length q_xs), (u4 13), (u4 14), (u4 15), (u4 16), (u4 17), (u4 18)]) rfl rfl (does_move (u := (.slice p_xs L_xs.length q_xs)) (ev rfl)) rfl ?_
      refine q_is (l' := [(.slice p_xs L_xs.length q_xs), (.func (.func f_f) s_f c_f), Ud, Ud, (u4 4), (Iv (k : Int)), (.slice p_xs L_xs.length q_xs), (Iv (L_xs.length : Int)), (Iv (k : Int)), (Bo (icmp .lss (k : Int) (L_xs.length : Int))), (Iv (k : Int)), (.func (.func f_f) s_f c_f), (.slice p_xs L_xs.length q_xs), (Iv (k : Int)), (u4 14), (u4 15), (u4 16), (u4 17), (u4 18)]) rfl rfl (does_move (u := (Iv (k : Int))) (ev rfl)) rfl ?_
      obtain ⟨el1, hel1⟩ : ∃ e, L_xs[k]? = some e := ⟨_, List.getElem?_eq_getElem (by omega)⟩
      refine seqd rfl rfl (does_indexSl (R := RF) (i := (k : Int)) (xs := L_xs) (e := el1) Try.underlying25 Try.sizeOf22 (ev rfl) (ev rfl) (Sl.ext hv_xs RF.mono X8) (by omega) hel1) ?_; rintro _ w5 ⟨b15, o16, _, rfl, hc18, ⟨r19, rfl, h20⟩, rfl⟩
      show wpList _ _ _ _ (fr [(.slice p_xs L_xs.length q_xs), (.func (.func f_f) s_f c_f), Ud, Ud, (u4 4), (Iv (k : Int)), (.slice p_xs L_xs.length q_xs), (Iv (L_xs.length : Int)), (Iv (k : Int)), (Bo (icmp .lss (k : Int) (L_xs.length : Int))), (Iv (k : Int)), (.func (.func f_f) s_f c_f), (.slice p_xs L_xs.length q_xs), (Iv (k : Int)), (Pt b15 o16), (u4 15), (u4 16), (u4 17), (u4 18)]) _
      refine q_is (l' := [(.slice p_xs L_xs.length q_xs), (.func (.func f_f) s_f c_f), Ud, Ud, (u4 4), (Iv (k : Int)), (.slice p_xs L_xs.length q_xs), (Iv (L_xs.length : Int)), (Iv (k : Int)), (Bo (icmp .lss (k : Int) (L_xs.length : Int))), (Iv (k : Int)), (.func (.func f_f) s_f c_f), (.slice p_xs L_xs.length q_xs), (Iv (k : Int)), (Pt b15 o16), (Fl r19), (u4 16), (u4 17), (u4 18)]) rfl rfl (does_load (u := (Fl r19)) (ev rfl) Try.isAgg22 (Cells.at hc18 0 rfl)) rfl ?_
      refine seqd rfl rfl (does_callf (args := #[(Fl r19)]) (ev rfl) hcal_f (evs rfl) (hg_f r19 _ X8)) ?_; rintro _ w22 ⟨E21, rfl⟩
      have X23 := Ext.gr X8 E21
      show wpList _ _ _ _ (fr [(.slice p_xs L_xs.length q_xs), (.func (.func f_f) s_f c_f), Ud, Ud, (u4 4), (Iv (k : Int)), (.slice p_xs L_xs.length q_xs), (Iv (L_xs.length : Int)), (Iv (k : Int)), (Bo (icmp .lss (k : Int) (L_xs.length : Int))), (Iv (k : Int)), (.func (.func f_f) s_f c_f), (.slice p_xs L_xs.length q_xs), (Iv (k : Int)), (Pt b15 o16), (Fl r19), (Bo (pr_f (cf .f32 r19))), (u4 17), (u4 18)]) _
      refine wpList_nil (hK14 _ _ ?_)
      refine wp_cond_split (t := pr_f (cf .f32 r19)) (ev rfl) (fun c24 => ?_) (fun c24 => ?_)
      · have c24' := c24
        refine wp_seq_k fun K25 hK25 => ?_
        refine wp_region_lit ?_
        refine q_is (l' := [(.slice p_xs L_xs.length q_xs), (.func (.func f_f) s_f c_f), Ud, Ud, (u4 4), (Iv (k : Int)), (.slice p_xs L_xs.length q_xs), (Iv (L_xs.length : Int)), (Iv (k : Int)), (Bo (icmp .lss (k : Int) (L_xs.length : Int))), (Iv (k : Int)), (.func (.func f_f) s_f c_f), (.slice p_xs L_xs.length q_xs), (Iv (k : Int)), (Pt b15 o16), (Fl r19), (Bo (pr_f (cf .f32 r19))), (Iv (k : Int)), (u4 18)]) rfl rfl (does_move (u := (Iv (k : Int))) (ev rfl)) rfl ?_
        refine q_is (l' := [(.slice p_xs L_xs.length q_xs), (.func (.func f_f) s_f c_f), Ud, Ud, (Iv (k : Int)), (Iv (k : Int)), (.slice p_xs L_xs.length q_xs), (Iv (L_xs.length : Int)), (Iv (k : Int)), (Bo (icmp .lss (k : Int) (L_xs.length : Int))), (Iv (k : Int)), (.func (.func f_f) s_f c_f), (.slice p_xs L_xs.length q_xs), (Iv (k : Int)), (Pt b15 o16), (Fl r19), (Bo (pr_f (cf .f32 r19))), (Iv (k : Int)), (u4 18)]) rfl rfl (does_assign (u := (Iv (k : Int))) (ev rfl)) rfl ?_
        refine wpList_nil (hK25 _ _ ?_)
        refine wp_ret ?_
        dsimp only [Exit.then, Exit.inBlock]
        refine ret_val (v := (Iv (k : Int))) (res_T rfl (slot rfl)) X23 ?_
        try simp only [hel1, h20] at c11 c24
        have x26 : (findI pr_f L_xs : Int) = (k : Int) := by first | exact findI_at hno (by assumption) (by simp_all) | exact findI_none hno (by omega)
        exact (by first | rfl | rw [x26])
      have c24' := c24
      refine wp_skip (hK12 _ _ ?_)
      refine wp_region_lit ?_
      refine q_is (l' := [(.slice p_xs L_xs.length q_xs), (.func (.func f_f) s_f c_f), Ud, Ud, (u4 4), (Iv (k : Int)), (.slice p_xs L_xs.length q_xs), (Iv (L_xs.length : Int)), (Iv (k : Int)), (Bo (icmp .lss (k : Int) (L_xs.length : Int))), (Iv (k : Int)), (.func (.func f_f) s_f c_f), (.slice p_xs L_xs.length q_xs), (Iv (k : Int)), (Pt b15 o16), (Fl r19), (Bo (pr_f (cf .f32 r19))), (u4 17), (Iv ((k : Int) + 1))]) rfl rfl (does_iarith (p := (k : Int)) (q := 1) (r := (k : Int) + 1) (ev rfl) (ev rfl) (.inl ⟨rfl, (in_i64 (by omega) (by omega)).symm⟩)) rfl ?_
      refine q_is (l' := [(.slice p_xs L_xs.length q_xs), (.func (.func f_f) s_f c_f), Ud, Ud, (u4 4), (Iv (k : Int)), (.slice p_xs L_xs.length q_xs), (Iv (L_xs.length : Int)), (Iv ((k : Int) + 1)), (Bo (icmp .lss (k : Int) (L_xs.length : Int))), (Iv (k : Int)), (.func (.func f_f) s_f c_f), (.slice p_xs L_xs.length q_xs), (Iv (k : Int)), (Pt b15 o16), (Fl r19), (Bo (pr_f (cf .f32 r19))), (u4 17), (Iv ((k : Int) + 1))]) rfl rfl (does_move (u := (Iv ((k : Int) + 1))) (ev rfl)) rfl ?_
      refine wpList_nil ?_
      refine ⟨k + 1, ⟨fun t => (([(.slice p_xs L_xs.length q_xs), (.func (.func f_f) s_f c_f), Ud, Ud, (u4 4), (Iv (k : Int)), (.slice p_xs L_xs.length q_xs), (Iv (L_xs.length : Int)), (Iv ((k : Int) + 1)), (Bo (icmp .lss (k : Int) (L_xs.length : Int))), (Iv (k : Int)), (.func (.func f_f) s_f c_f), (.slice p_xs L_xs.length q_xs), (Iv (k : Int)), (Pt b15 o16), (Fl r19), (Bo (pr_f (cf .f32 r19))), (u4 17), (Iv ((k : Int) + 1))] : List Value)[t]?).getD undef, ?_, (Ext.gr E6 E21), ?_⟩, ?_⟩
      · first | rfl | (simp only [Nat.cast_add, Nat.cast_one, Int.natCast_add, Int.natCast_one]; rfl)
      · exact ⟨by omega, NoneTo.step hno (by assumption) (by simp_all)⟩
      · omega
    have c11' := c11
    (try simp only [icmp, Bool.and_eq_true, Bool.or_eq_true, Bool.and_eq_false_iff, Bool.or_eq_false_iff, Bool.not_eq_true', Bool.not_eq_false', decide_eq_true_eq, decide_eq_false_iff_not, beq_iff_eq, bne_iff_ne, beq_eq_false_iff_ne, bne_eq_false_iff_eq] at c11')
    refine wp_exit ?_
    refine hK2 _ _ ?_
    refine wp_seq_k fun K27 hK27 => ?_
    refine wp_region_lit ?_
    refine q_is (l' := [(.slice p_xs L_xs.length q_xs), (.func (.func f_f) s_f c_f), Ud, Ud, (Iv (-1)), (u4 5), (.slice p_xs L_xs.length q_xs), (Iv (L_xs.length : Int)), (Iv (k : Int)), (Bo (icmp .lss (k : Int) (L_xs.length : Int))), (u4 10), (u4 11), (u4 12), (u4 13), (u4 14), (u4 15), (u4 16), (u4 17), (u4 18)]) rfl rfl (does_assign (u := (Iv (-1))) (ev rfl)) rfl ?_
    refine wpList_nil (hK27 _ _ ?_)
    refine wp_ret ?_
    refine ret_val (v := (Iv (-1))) (res_T rfl (slot rfl)) X8 ?_
    have x28 : (findI pr_f L_xs : Int) = (-1) := by first | exact findI_at hno (by assumption) (by simp_all) | exact findI_none hno (by omega)
    exact (by first | rfl | rw [x28])

/- slices.ContainsFunc[[]float32,float32] -/
theorem c_slices_ContainsFunc_float32_float32 (xs : Value) (L_xs : List Nat) (f : Value) (pr_f : Nat → Bool) (w : World) (hv_xs : Sl RF 1 w xs L_xs) (hv_f : TellsF Try.prog f w pr_f) : Gives Try.prog 61 #[xs, f] w (fun v w' => v = (Bo (L_xs.any pr_f))) := by
  have hlen_xs := Sl.len hv_xs; obtain ⟨p_xs, q_xs, rfl⟩ := Sl.shape hv_xs
  obtain ⟨f_f, s_f, c_f, rfl, hcal_f, hg_f⟩ := hv_f
  refine enter [(.slice p_xs L_xs.length q_xs), (.func (.func f_f) s_f c_f), Ud, Ud, Ud, Ud, Ud, Ud, Ud] Try.func61 rfl Try.ntmps61 rfl ?_
  refine wp_seq_k fun K1 hK1 => ?_
  refine wp_region_lit ?_
  refine q_is (l' := [(.slice p_xs L_xs.length q_xs), (.func (.func f_f) s_f c_f), Ud, Ud, (Bo false), Ud, Ud, Ud, Ud]) rfl rfl (does_assign (u := (Bo false)) (ev rfl)) rfl ?_
  refine wpList_nil (hK1 _ _ ?_)
  refine wp_seq_k fun K2 hK2 => ?_
  refine wp_region_lit ?_
  refine q_is (l' := [(.slice p_xs L_xs.length q_xs), (.func (.func f_f) s_f c_f), Ud, Ud, (Bo false), (.slice p_xs L_xs.length q_xs), Ud, Ud, Ud]) rfl rfl (does_move (u := (.slice p_xs L_xs.length q_xs)) (ev rfl)) rfl ?_
  refine q_is (l' := [(.slice p_xs L_xs.length q_xs), (.func (.func f_f) s_f c_f), Ud, Ud, (Bo false), (.slice p_xs L_xs.length q_xs), (.func (.func f_f) s_f c_f), Ud, Ud]) rfl rfl (does_move (u := (.func (.func f_f) s_f c_f)) (ev rfl)) rfl ?_
  refine seqd rfl rfl (does_call (args := #[(.slice p_xs L_xs.length q_xs), (.func (.func f_f) s_f c_f)]) cal63 (evs rfl) (c_slices_IndexFunc_float32_float32 (.slice p_xs L_xs.length q_xs) L_xs (.func (.func f_f) s_f c_f) pr_f _ hv_xs ⟨_, _, _, rfl, hcal_f, fun r u hu' => hg_f r u (Ext.gr (Ext.refl w) hu')⟩)) ?_; rintro _ w4 ⟨E3, rfl⟩
  have X5 := Ext.gr (Ext.refl w) E3
  show wpList _ _ _ _ (fr [(.slice p_xs L_xs.length q_xs), (.func (.func f_f) s_f c_f), Ud, Ud, (Bo false), (.slice p_xs L_xs.length q_xs), (.func (.func f_f) s_f c_f), (Iv (findI pr_f L_xs)), Ud]) _
  refine q_is (l' := [(.slice p_xs L_xs.length q_xs), (.func (.func f_f) s_f c_f), Ud, Ud, (Bo false), (.slice p_xs L_xs.length q_xs), (.func (.func f_f) s_f c_f), (Iv (findI pr_f L_xs)), (Bo (icmp .geq (findI pr_f L_xs) 0))]) rfl rfl (does_icmp (p := findI pr_f L_xs) (q := 0) (.inr (.inr (.inr (.inr (.inr rfl))))) (ev rfl) (ev rfl)) rfl ?_
  refine q_is (l' := [(.slice p_xs L_xs.length q_xs), (.func (.func f_f) s_f c_f), Ud, Ud, (Bo (icmp .geq (findI pr_f L_xs) 0)), (.slice p_xs L_xs.length q_xs), (.func (.func f_f) s_f c_f), (Iv (findI pr_f L_xs)), (Bo (icmp .geq (findI pr_f L_xs) 0))]) rfl rfl (does_assign (u := (Bo (icmp .geq (findI pr_f L_xs) 0))) (ev rfl)) rfl ?_
  refine wpList_nil (hK2 _ _ ?_)
  refine wp_ret ?_
  refine ret_val (v := (Bo (icmp .geq (findI pr_f L_xs) 0))) (res_T rfl (slot rfl)) X5 ?_
  have x6 : (L_xs.any pr_f) = (icmp .geq (findI pr_f L_xs) 0) := by first | with_reducible rfl | (simp only [findI_any]; done) | (simp [findI_any]; done) | rfl
  exact (by first | rfl | rw [x6])

/- impl.IsFinite -/
theorem c_impl_IsFinite (x : Nat) (w : World) : Gives Try.prog 60 #[(Fl x)] w (fun v w' => v = (Bo (finF (cf .f32 x)))) := by
  refine enter [(Fl x), Ud, Ud, Ud, Ud, Ud, Ud] Try.func60 rfl Try.ntmps60 rfl ?_
  refine wp_seq_k fun K1 hK1 => ?_
  refine wp_region_lit ?_
  refine q_is (l' := [(Fl x), Ud, (Bo false), Ud, Ud, Ud, Ud]) rfl rfl (does_assign (u := (Bo false)) (ev rfl)) rfl ?_
  refine wpList_nil (hK1 _ _ ?_)
  refine wp_seq_k fun K2 hK2 => ?_
  refine wp_region_lit ?_
  refine q_is (l' := [(Fl x), Ud, (Bo false), (Fl x), Ud, Ud, Ud]) rfl rfl (does_move (u := (Fl x)) (ev rfl)) rfl ?_
  refine q_is (l' := [(Fl x), Ud, (Bo false), (Fl x), (Fl x), Ud, Ud]) rfl rfl (does_move (u := (Fl x)) (ev rfl)) rfl ?_
  refine seqd rfl rfl (does_float (.inr (.inl rfl)) (ev rfl) (ev rfl)) ?_; rintro _ w6 ⟨r3, rfl, h4, E5⟩
  have X7 := Ext.gr (Ext.refl w) E5
  show wpList _ _ _ _ (fr [(Fl x), Ud, (Bo false), (Fl x), (Fl x), (Fl r3), Ud]) _
  refine q_is (l' := [(Fl x), Ud, (Bo false), (Fl x), (Fl x), (Fl r3), (Bo (fcmp .eql (ford .f32 (cf .f32 r3) (cf .f32 0))))]) rfl rfl (does_fcmp (.inl rfl) (ev rfl) (ev rfl)) rfl ?_
  refine q_is (l' := [(Fl x), Ud, (Bo (fcmp .eql (ford .f32 (cf .f32 r3) (cf .f32 0)))), (Fl x), (Fl x), (Fl r3), (Bo (fcmp .eql (ford .f32 (cf .f32 r3) (cf .f32 0))))]) rfl rfl (does_assign (u := (Bo (fcmp .eql (ford .f32 (cf .f32 r3) (cf .f32 0))))) (ev rfl)) rfl ?_
  refine wpList_nil (hK2 _ _ ?_)
  refine wp_ret ?_
  refine ret_val (v := (Bo (fcmp .eql (ford .f32 (cf .f32 r3) (cf .f32 0))))) (res_T rfl (slot rfl)) X7 ?_
  have x8 : (finF (cf .f32 x)) = (fcmp .eql (ford .f32 (cf .f32 r3) (cf .f32 0))) := by first | with_reducible rfl | (simp only [finF, h4]; done) | (simp [finF, h4]; done) | rfl
  exact (by first | rfl | rw [x8])

/- impl.finite$1 -/
theorem c_impl_finite_1 (x : Nat) (w : World) : Gives Try.prog 62 #[(Fl x)] w (fun v w' => v = (Bo (!finF (cf .f32 x)))) := by
  refine enter [(Fl x), Ud, Ud, Ud, Ud, Ud] Try.func62 rfl Try.ntmps62 rfl ?_
  refine wp_seq_k fun K1 hK1 => ?_
  refine wp_region_lit ?_
  refine q_is (l' := [(Fl x), Ud, (Bo false), Ud, Ud, Ud]) rfl rfl (does_assign (u := (Bo false)) (ev rfl)) rfl ?_
  refine wpList_nil (hK1 _ _ ?_)
  refine wp_seq_k fun K2 hK2 => ?_
  refine wp_region_lit ?_
  refine q_is (l' := [(Fl x), Ud, (Bo false), (Fl x), Ud, Ud]) rfl rfl (does_move (u := (Fl x)) (ev rfl)) rfl ?_
  refine seqd rfl rfl (does_call (args := #[(Fl x)]) cal60 (evs rfl) (c_impl_IsFinite x _)) ?_; rintro _ w4 ⟨E3, rfl⟩
  have X5 := Ext.gr (Ext.refl w) E3
  show wpList _ _ _ _ (fr [(Fl x), Ud, (Bo false), (Fl x), (Bo (finF (cf .f32 x))), Ud]) _
  refine q_is (l' := [(Fl x), Ud, (Bo false), (Fl x), (Bo (finF (cf .f32 x))), (Bo (!(finF (cf .f32 x))))]) rfl rfl (does_not (ev rfl)) rfl ?_
  refine q_is (l' := [(Fl x), Ud, (Bo (!(finF (cf .f32 x)))), (Fl x), (Bo (finF (cf .f32 x))), (Bo (!(finF (cf .f32 x))))]) rfl rfl (does_assign (u := (Bo (!(finF (cf .f32 x))))) (ev rfl)) rfl ?_
  refine wpList_nil (hK2 _ _ ?_)
  refine wp_ret ?_
  refine ret_val (v := (Bo (!(finF (cf .f32 x))))) (res_T rfl (slot rfl)) X5 ?_
  have x6 : (!finF (cf .f32 x)) = (!(finF (cf .f32 x))) := by first | with_reducible rfl | (simp only []; done) | (simp []; done) | rfl
  exact (by first | rfl | rw [x6])

/- impl.finite -/
theorem c_impl_finite (xs : Value) (L_xs : List Nat) (w : World) (hv_xs : Sl RF 1 w xs L_xs) : Gives Try.prog 59 #[xs] w (fun v w' => v = (Bo (!L_xs.any (fun x => !finF x)))) := by
  have hlen_xs := Sl.len hv_xs; obtain ⟨p_xs, q_xs, rfl⟩ := Sl.shape hv_xs
  refine enter [(.slice p_xs L_xs.length q_xs), Ud, Ud, Ud, Ud, Ud] Try.func59 rfl Try.ntmps59 rfl ?_
  refine wp_seq_k fun K1 hK1 => ?_
  refine wp_region_lit ?_
  refine q_is (l' := [(.slice p_xs L_xs.length q_xs), Ud, (Bo false), Ud, Ud, Ud]) rfl rfl (does_assign (u := (Bo false)) (ev rfl)) rfl ?_
  refine wpList_nil (hK1 _ _ ?_)
  refine wp_seq_k fun K2 hK2 => ?_
  refine wp_region_lit ?_
  refine q_is (l' := [(.slice p_xs L_xs.length q_xs), Ud, (Bo false), (.slice p_xs L_xs.length q_xs), Ud, Ud]) rfl rfl (does_move (u := (.slice p_xs L_xs.length q_xs)) (ev rfl)) rfl ?_
  refine seqd rfl rfl (does_call (args := #[(.slice p_xs L_xs.length q_xs), (.func (.func 62) #[] #[])]) cal61 (evs rfl) (c_slices_ContainsFunc_float32_float32 (.slice p_xs L_xs.length q_xs) L_xs (.func (.func 62) #[] #[]) (fun x => !finF x) _ hv_xs ⟨62, #[], #[], rfl, cal62, fun r u hu' => by simpa using (c_impl_finite_1 r u)⟩)) ?_; rintro _ w4 ⟨E3, rfl⟩
  have X5 := Ext.gr (Ext.refl w) E3
  show wpList _ _ _ _ (fr [(.slice p_xs L_xs.length q_xs), Ud, (Bo false), (.slice p_xs L_xs.length q_xs), (Bo (L_xs.any (fun x => !finF x))), Ud]) _
  refine q_is (l' := [(.slice p_xs L_xs.length q_xs), Ud, (Bo false), (.slice p_xs L_xs.length q_xs), (Bo (L_xs.any (fun x => !finF x))), (Bo (!(L_xs.any (fun x => !finF x))))]) rfl rfl (does_not (ev rfl)) rfl ?_
  refine q_is (l' := [(.slice p_xs L_xs.length q_xs), Ud, (Bo (!(L_xs.any (fun x => !finF x)))), (.slice p_xs L_xs.length q_xs), (Bo (L_xs.any (fun x => !finF x))), (Bo (!(L_xs.any (fun x => !finF x))))]) rfl rfl (does_assign (u := (Bo (!(L_xs.any (fun x => !finF x))))) (ev rfl)) rfl ?_
  refine wpList_nil (hK2 _ _ ?_)
  refine wp_ret ?_
  refine ret_val (v := (Bo (!(L_xs.any (fun x => !finF x))))) (res_T rfl (slot rfl)) X5 ?_
  have x6 : (!L_xs.any (fun x => !finF x)) = (!(L_xs.any (fun x => !finF x))) := by first | with_reducible rfl | (simp only []; done) | (simp []; done) | rfl
  exact (by first | rfl | rw [x6])

/- impl.finiteVector -/
theorem c_impl_finiteVector (v : List Value) (A_v : V3) (w : World) (hv_v : RV3 w A_v v) : Gives Try.prog 50 #[(.agg v.toArray)] w (fun v w' => v = (Bo (finV A_v))) := by
  obtain ⟨r1, r3, r5, rfl, h2, h4, h6⟩ := hv_v
  refine enter [(.agg #[(Fl r1), (Fl r3), (Fl r5)]), Ud, Ud, Ud, Ud, Ud, Ud, Ud, Ud, Ud, Ud] Try.func50 rfl Try.ntmps50 rfl ?_
  refine wp_seq_k fun K7 hK7 => ?_
  refine wp_region_lit ?_
  refine seqd rfl rfl (does_box (u := (.agg #[(Fl r1), (Fl r3), (Fl r5)])) (ev rfl)) ?_; rintro _ w12 ⟨b8, rfl, hb9, hB10, E11⟩
  have g13 : w.heap.size ≤ b8 := Nat.le_trans (Below.size (Ext.refl w)) hb9
  change Blk _ _ [(Fl r1), (Fl r3), (Fl r5)] at hB10
  have X14 := Ext.gr (Ext.refl w) E11
  show wpList _ _ _ _ (fr [(.agg #[(Fl r1), (Fl r3), (Fl r5)]), (Pt b8 0), Ud, Ud, Ud, Ud, Ud, Ud, Ud, Ud, Ud]) _
  refine q_is (l' := [(.agg #[(Fl r1), (Fl r3), (Fl r5)]), (Pt b8 0), (Bo false), Ud, Ud, Ud, Ud, Ud, Ud, Ud, Ud]) rfl rfl (does_assign (u := (Bo false)) (ev rfl)) rfl ?_
  refine wpList_nil (hK7 _ _ ?_)
  refine wp_seq_k fun K15 hK15 => ?_
  refine wp_region_lit ?_
  refine q_is (l' := [(.agg #[(Fl r1), (Fl r3), (Fl r5)]), (Pt b8 0), (Bo false), (Pt b8 0), Ud, Ud, Ud, Ud, Ud, Ud, Ud]) rfl rfl (does_fieldAddr (ev rfl) fa29_0) rfl ?_
  refine q_is (l' := [(.agg #[(Fl r1), (Fl r3), (Fl r5)]), (Pt b8 0), (Bo false), (Pt b8 0), (Fl r1), Ud, Ud, Ud, Ud, Ud, Ud]) rfl rfl (does_load (u := (Fl r1)) (ev rfl) Try.isAgg22 (Cells.at (Blk.cells hB10) 0 rfl)) rfl ?_
  refine q_is (l' := [(.agg #[(Fl r1), (Fl r3), (Fl r5)]), (Pt b8 0), (Bo false), (Pt b8 0), (Fl r1), (Pt b8 1), Ud, Ud, Ud, Ud, Ud]) rfl rfl (does_fieldAddr (ev rfl) fa29_1) rfl ?_
  refine q_is (l' := [(.agg #[(Fl r1), (Fl r3), (Fl r5)]), (Pt b8 0), (Bo false), (Pt b8 0), (Fl r1), (Pt b8 1), (Fl r3), Ud, Ud, Ud, Ud]) rfl rfl (does_load (u := (Fl r3)) (ev rfl) Try.isAgg22 (Cells.at (Blk.cells hB10) 1 rfl)) rfl ?_
  refine q_is (l' := [(.agg #[(Fl r1), (Fl r3), (Fl r5)]), (Pt b8 0), (Bo false), (Pt b8 0), (Fl r1), (Pt b8 1), (Fl r3), (Pt b8 2), Ud, Ud, Ud]) rfl rfl (does_fieldAddr (ev rfl) fa29_2) rfl ?_
  refine q_is (l' := [(.agg #[(Fl r1), (Fl r3), (Fl r5)]), (Pt b8 0), (Bo false), (Pt b8 0), (Fl r1), (Pt b8 1), (Fl r3), (Pt b8 2), (Fl r5), Ud, Ud]) rfl rfl (does_load (u := (Fl r5)) (ev rfl) Try.isAgg22 (Cells.at (Blk.cells hB10) 2 rfl)) rfl ?_
  refine seqd rfl rfl (does_buildSlice (e := 22) (parts' := [(0, (Fl r1)), (1, (Fl r3)), (2, (Fl r5))]) (cells := [(Fl r1), (Fl r3), (Fl r5)]) (evp rfl) (fun _ => by kernel_rfl)) ?_; rintro _ w20 ⟨b16, rfl, hb17, hB18, E19⟩
  have n21 : b8 < b16 := Nat.lt_of_lt_of_le (Blk.lt hB10) hb17
  have g22 : w.heap.size ≤ b16 := Nat.le_trans (Below.size X14) hb17
  have X23 := Ext.gr X14 E19
  show wpList _ _ _ _ (fr [(.agg #[(Fl r1), (Fl r3), (Fl r5)]), (Pt b8 0), (Bo false), (Pt b8 0), (Fl r1), (Pt b8 1), (Fl r3), (Pt b8 2), (Fl r5), (.slice (some ⟨b16, 0, none⟩) 3 3), Ud]) _
  refine seqd rfl rfl (does_call (args := #[(.slice (some ⟨b16, 0, none⟩) 3 3)]) cal59 (evs rfl) (c_impl_finite (.slice (some ⟨b16, 0, none⟩) 3 3) [(cf .f32 r1), (cf .f32 r3), (cf .f32 r5)] _ (Sl_lit3 hB18 ⟨_, rfl, rfl⟩ ⟨_, rfl, rfl⟩ ⟨_, rfl, rfl⟩))) ?_; rintro _ w25 ⟨E24, rfl⟩
  have X26 := Ext.gr X23 E24
  show wpList _ _ _ _ (fr [(.agg #[(Fl r1), (Fl r3), (Fl r5)]), (Pt b8 0), (Bo false), (Pt b8 0), (Fl r1), (Pt b8 1), (Fl r3), (Pt b8 2), (Fl r5), (.slice (some ⟨b16, 0, none⟩) 3 3), (Bo (!([(cf .f32 r1), (cf .f32 r3), (cf .f32 r5)]).any (fun x => !finF x)))]) _
  refine q_is (l' := [(.agg #[(Fl r1), (Fl r3), (Fl r5)]), (Pt b8 0), (Bo (!([(cf .f32 r1), (cf .f32 r3), (cf .f32 r5)]).any (fun x => !finF x))), (Pt b8 0), (Fl r1), (Pt b8 1), (Fl r3), (Pt b8 2), (Fl r5), (.slice (some ⟨b16, 0, none⟩) 3 3), (Bo (!([(cf .f32 r1), (cf .f32 r3), (cf .f32 r5)]).any (fun x => !finF x)))]) rfl rfl (does_assign (u := (Bo (!([(cf .f32 r1), (cf .f32 r3), (cf .f32 r5)]).any (fun x => !finF x)))) (ev rfl)) rfl ?_
  refine wpList_nil (hK15 _ _ ?_)
  refine wp_ret ?_
  refine ret_val (v := (Bo (!([(cf .f32 r1), (cf .f32 r3), (cf .f32 r5)]).any (fun x => !finF x)))) (res_T rfl (slot rfl)) X26 ?_
  have x27 : (finV A_v) = (!([(cf .f32 r1), (cf .f32 r3), (cf .f32 r5)]).any (fun x => !finF x)) := by first | with_reducible rfl | (simp only [finV, any3_finF, h2, h4, h6]; done) | (simp [finV, any3_finF, h2, h4, h6]; done) | rfl
  exact (by first | rfl | rw [x27])

/- impl.stepOk -/
theorem c_impl_stepOk (x : Nat) (w : World) : Gives Try.prog 51 #[(Fl x)] w (fun v w' => v = (Bo (finF (cf .f32 x) && posF (cf .f32 x)))) := by
  refine enter [(Fl x), Ud, Ud, Ud, Ud, Ud, Ud, Ud, Ud] Try.func51 rfl Try.ntmps51 rfl ?_
  refine wp_seq_k fun K1 hK1 => ?_
  refine wp_region_lit ?_
  refine q_is (l' := [(Fl x), Ud, (Bo false), Ud, Ud, Ud, Ud, Ud, Ud]) rfl rfl (does_assign (u := (Bo false)) (ev rfl)) rfl ?_
  refine wpList_nil (hK1 _ _ ?_)
  refine wp_seq_k fun K2 hK2 => ?_
  obtain ⟨β1, hβ1⟩ : ∃ b : Bool, b = (fcmp .gtr (ford .f32 (cf .f32 x) (cf .f32 0))) := ⟨_, rfl⟩
  refine region_text (
    [Fact.pure [] (fun v => v = (Fl x)),
    Fact.pure [3] (fun v => v = (Bo (finF (cf .f32 x)))),
    Fact.pure [4] (fun v => v = (Bo (finF (cf .f32 x)))),
    Fact.pure [5] (fun v => (finF (cf .f32 x)) = true → v = (Fl x)),
    Fact.pure [6, 5] (fun v => (finF (cf .f32 x)) = true → v = (Bo β1)),
    Fact.pure [5, 7] (fun v => v = (Bo ((finF (cf .f32 x)) && β1)))]) (by simp [Fact.pure, Fact.mem]) ?_
  refine RW_d (fun v3 => [(Fl x), Ud, (Bo false), v3, Ud, Ud, Ud, Ud, Ud]) rfl (fun _ => rfl) (fun u hu hF => ?_) (fun v3 => ?_)
  · clear hF
    refine doesG_un rfl ?_
    refine (does_move (u := (Fl x)) (ev rfl)).mono ?_; rintro _ _ ⟨rfl, rfl⟩
    exact ⟨rfl, Ext.refl _⟩
  refine RW_d (fun v4 => [(Fl x), Ud, (Bo false), v3, v4, Ud, Ud, Ud, Ud]) rfl (fun _ => rfl) (fun u hu hF => ?_) (fun v4 => ?_)
  · have h3_ : v3 = (Fl x) := hF.1
    clear hF
    refine doesG_un rfl ?_
    obtain rfl := h3_
    refine (does_call (args := #[(Fl x)]) cal60 (evs rfl) (c_impl_IsFinite x _)).mono ?_; rintro v u' ⟨hx, hv⟩
    exact ⟨hv, hx⟩
  refine RW_d (fun v5 => [(Fl x), Ud, (Bo false), v3, v4, v5, Ud, Ud, Ud]) rfl (fun _ => rfl) (fun u hu hF => ?_) (fun v5 => ?_)
  · have h4_ : v4 = (Bo (finF (cf .f32 x))) := hF.1
    clear hF
    refine doesG_un rfl ?_
    obtain rfl := h4_
    refine (does_move (u := (Bo (finF (cf .f32 x)))) (ev rfl)).mono ?_; rintro _ _ ⟨rfl, rfl⟩
    exact ⟨rfl, Ext.refl _⟩
  refine RW_d (fun v6 => [(Fl x), Ud, (Bo false), v3, v4, v5, v6, Ud, Ud]) rfl (fun _ => rfl) (fun u hu hF => ?_) (fun v6 => ?_)
  · have h5_ : v5 = (Bo (finF (cf .f32 x))) := hF.1
    clear hF
    obtain rfl := h5_
    refine doesG_g (b := (finF (cf .f32 x))) rfl (yld rfl rfl) (fun hg1 => ?_) (fun hc => ⟨fun hg1 => absurd hg1 hc, Ext.refl _⟩)
    refine (does_move (u := (Fl x)) (ev rfl)).mono ?_; rintro _ _ ⟨rfl, rfl⟩
    exact ⟨fun _ => rfl, Ext.refl _⟩
  refine RW_d (fun v7 => [(Fl x), Ud, (Bo false), v3, v4, v5, v6, v7, Ud]) rfl (fun _ => rfl) (fun u hu hF => ?_) (fun v7 => ?_)
  · have h6_ : (finF (cf .f32 x)) = true → v6 = (Fl x) := hF.1
    have h5_ : v5 = (Bo (finF (cf .f32 x))) := hF.2.1
    clear hF
    obtain rfl := h5_
    refine doesG_g (b := (finF (cf .f32 x))) rfl (yld rfl rfl) (fun hg1 => ?_) (fun hc => ⟨fun hg1 => absurd hg1 hc, Ext.refl _⟩)
    obtain rfl := h6_ hg1
    refine (does_fcmp (.inr (.inr (.inr (.inr (.inl rfl))))) (ev rfl) (ev rfl)).mono ?_; rintro _ _ ⟨rfl, rfl⟩
    exact ⟨fun _ => (by first | rfl | (show _ = _; simp only [hβ1])), Ext.refl _⟩
  refine RW_d (fun v8 => [(Fl x), Ud, (Bo false), v3, v4, v5, v6, v7, v8]) rfl (fun _ => rfl) (fun u hu hF => ?_) (fun v8 => ?_)
  · have h5_ : v5 = (Bo (finF (cf .f32 x))) := hF.1
    have h7_ : (finF (cf .f32 x)) = true → v7 = (Bo β1) := hF.2.1
    clear hF
    refine doesG_un rfl ?_
    skip
    obtain rfl := h5_
    refine (does_pick (b := (finF (cf .f32 x))) (ev rfl) (ev rfl) (ev rfl)).mono ?_; rintro _ _ ⟨rfl, rfl⟩; refine ⟨?_, Ext.refl _⟩; skip
    cases hbb : (finF (cf .f32 x)) <;> simp [hbb] at h7_ ⊢
    all_goals (first | rfl | (subst h7_; rfl) | simp_all)
  refine RW_fin ?_; intro w9 E10 hP11
  obtain ⟨⟨⟨⟨⟨⟨-, -⟩, -⟩, -⟩, -⟩, -⟩, q12⟩ := hP11
  have X13 := Ext.gr (Ext.refl w) E10
  have q12 : v8 = (Bo ((finF (cf .f32 x)) && β1)) := q12
  obtain rfl := q12
  show wpList _ _ _ _ (fr [(Fl x), Ud, (Bo false), v3, v4, v5, v6, v7, (Bo ((finF (cf .f32 x)) && β1))]) _
  refine q_is (l' := [(Fl x), Ud, (Bo ((finF (cf .f32 x)) && β1)), v3, v4, v5, v6, v7, (Bo ((finF (cf .f32 x)) && β1))]) rfl rfl (does_assign (u := (Bo ((finF (cf .f32 x)) && β1))) (ev rfl)) rfl ?_
  refine wpList_nil (hK2 _ _ ?_)
  refine wp_ret ?_
  refine ret_val (v := (Bo ((finF (cf .f32 x)) && β1))) (res_T rfl (slot rfl)) X13 ?_
  have x14 : (finF (cf .f32 x) && posF (cf .f32 x)) = ((finF (cf .f32 x)) && β1) := by first | with_reducible rfl | (simp only [posF, hβ1]; done) | (simp [posF, hβ1]; done) | rfl
  exact (by first | rfl | rw [x14])

end Go.Proofs.Ytffmjlalacnfiaa
